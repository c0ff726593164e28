/- Cs Ct Df Dg Dh Di Cu Dj Dk Dm Cv Cw HwFf Cx Cy Cz (joined by merge.py) -/
import Derived.Test.YtmelbipidffmpaaGreatDoorTm8
import Derived.Test.YtmelbipidffmpaaGreatDoorTm5
import Derived.Test.YtmelbipidffmpaaGreatDoorTm3
import Derived.Test.YtmelbipidffmpaaGreatDoorTm6
/- Make. -/
set_option linter.unusedVariables false
set_option linter.unusedSimpArgs false
set_option linter.unusedSectionVars false
set_option maxRecDepth 20000
namespace Go.Proofs.YtmelbipidffmpaaGreatDoor.Hw
open Go Go.Proofs
def NoTwo (l : List EnM) : Prop := l.Pairwise fun a b => ordE a b ≠ 0
theorem noTwo_perm {l l' : List EnM} (h : l'.Perm l) : NoTwo l' ↔ NoTwo l :=
  h.pairwise_iff fun {x y} hne h0 => hne (by have := ordE_ok.anti x y; omega)
theorem srt_of {l : List EnM} (h1 : l.Pairwise fun x y => ¬ ordE y x < 0) (h2 : ∀ j a b, l[j]? = some a → l[j + 1]? = some b → ordE a b ≠ 0) : SrtE l := by
  have le : ∀ (i j : Nat) (a b : EnM), i ≤ j → l[i]? = some a → l[j]? = some b → ordE a b ≤ 0 := fun i j a b hij ha hb => by
    by_cases e : i = j
    · subst e; rw [ha] at hb; cases hb; rw [ordE_ok.self]; omega
    · obtain ⟨a1, a2⟩ := List.getElem?_eq_some_iff.1 ha
      obtain ⟨b1, b2⟩ := List.getElem?_eq_some_iff.1 hb
      have := List.pairwise_iff_getElem.1 h1 i j a1 b1 (by omega)
      rw [a2, b2] at this
      have := ordE_ok.anti a b
      omega
  unfold SrtE
  rw [List.pairwise_iff_getElem]
  intro i j hi hj hij
  have g1 := List.getElem?_eq_getElem hi
  have g2 := List.getElem?_eq_getElem (l := l) (i := i + 1) (by omega)
  have g3 := List.getElem?_eq_getElem hj
  have q1 := le i (i + 1) _ _ (by omega) g1 g2
  have q2 := h2 i _ _ g1 g2
  exact ordE_ok.lt_of (by omega) (le (i + 1) j _ _ (by omega) g2 g3)
theorem srt_noTwo {l : List EnM} (h : SrtE l) : NoTwo l := List.Pairwise.imp (fun {a b} h => by omega) h
section
variable {H : Hp} {A : Option Addr} {n c : Nat} {cols : Int} {Q : Value → Hp → Prop}
theorem c31 {l : List EnM} (N : NullAt H) (hl : SlAt enC H A n l) (hk : ∀ e ∈ l, KeyAt H e) (hn4 : n ≤ 4398046510976)
    (h2 : ¬ ((1 ≤ cols ∧ cols ≤ 20) ∧ l.all (entB cols) = true) → ∀ H', Ext H H' → Q (.tuple #[.agg #[.slice none 0 0, .int .i64 0, .int .i64 0], .int .i64 2]) H')
    (h14 : ((1 ≤ cols ∧ cols ≤ 20) ∧ l.all (entB cols) = true) → ¬ NoTwo l → ∀ H', Ext H H' → Q (.tuple #[.agg #[.slice none 0 0, .int .i64 0, .int .i64 0], .int .i64 14]) H')
    (h3 : ((1 ≤ cols ∧ cols ≤ 20) ∧ l.all (entB cols) = true) → NoTwo l → 4000 < l.length → ∀ H', Ext H H' → Q (.tuple #[.agg #[.slice none 0 0, .int .i64 0, .int .i64 0], .int .i64 3]) H')
    (h0 : ((1 ≤ cols ∧ cols ≤ 20) ∧ l.all (entB cols) = true) → NoTwo l → l.length ≤ 4000 → ∀ H' A' c' bl l' L dep, Ext H H' → L.Perm l → SrtE L → l'.map sayE = L.map sayE → OutT H' A' bl cols l' dep → Q (.tuple #[.agg #[.slice A' bl.length c', .int .i64 0, .int .i64 cols], .int .i64 0]) H') :
    HCalls Tryz.prog 31 [.int .i64 cols, .slice A n c] H Q := by
  refine f31.ok _ _ _ _ ?_
  unfold f31
  intro g1 hg1
  obtain rfl := hl.len
  have x2 : Ext H (upd g1 (.cells [Value.int .i64 cols].toArray 3 (0, 0)) H) := Ext.new hg1
  obtain ⟨H2, hH2⟩ : ∃ H2, H2 = upd g1 (.cells [Value.int .i64 cols].toArray 3 (0, 0)) H := ⟨_, rfl⟩
  rw [← hH2] at x2 ⊢
  have cg : ∀ H', Ext H2 H' → cl H' g1 0 = some (.int .i64 cols) := fun H' hx => by
    have : H2 g1 = some (.cells [Value.int .i64 cols].toArray 3 (0, 0)) := by rw [hH2]; exact upd_at
    rw [cl_cells (hx _ _ this)]; rfl
  have cg2 := cg H2 (Ext.refl _)
  refine jn_intro (fun J => (¬ ((1 ≤ cols ∧ cols ≤ 20) ∧ l.all (entB cols) = true) → J true H2) ∧ (((1 ≤ cols ∧ cols ≤ 20) ∧ l.all (entB cols) = true) → J false H2)) ⟨fun hb => cndT rfl (h2 hb H2 x2), fun hok => cndF rfl ?_⟩ fun J hJ => ⟨cols, cg2, cndI (fun h => hJ.1 fun h' => ?_) fun h => ⟨cols, cg2, cndI (fun h' => hJ.1 fun h'' => ?_) fun h' => ?_⟩⟩
  rotate_left
  · have := of_decide_eq_true h; omega
  · have := of_decide_eq_true h'; omega
  · have h := of_decide_eq_false h
    have h' := of_decide_eq_false h'
    refine c60 (N.ext x2) (hl.ext x2) (fun e he => (hk e he).ext x2) cg2 ⟨_, rfl, ?_⟩
    cases ha : l.all (entB cols) with
    | true => exact hJ.2 ⟨⟨by omega, by omega⟩, ha⟩
    | false => exact hJ.1 fun ⟨_, e⟩ => by rw [ha] at e; cases e
  have hk2 : ∀ e ∈ l, KeyAt H2 e := fun e he => (hk e he).ext x2
  have hcols := hok.1
  have hall := hok.2
  refine c62r (l := l) (hl.ext x2).cells rfl (by omega) fun A13 c13 H12 x12 R12 => ⟨_, _, _, rfl, ?_⟩
  refine c63 R12 x12 hk2 hl.small fun L H15 hperm hsrt R15 x15 _ => ⟨rfl, ?_⟩
  have hLl : L.length = l.length := hperm.length_eq
  have hkL : ∀ e ∈ L, KeyAt H2 e := fun e he => hk2 e (hperm.mem_iff.1 he)
  have entL : ∀ e ∈ L, entB cols e = true := fun e he => List.all_eq_true.1 hall e (hperm.mem_iff.1 he)
  have s15 : SlAt enC H15 A13 L.length L := ⟨rfl, R15.cells, by rw [hLl]; exact hl.small⟩
  have hsm := hl.small
  unfold huge at hsm
  rw [← hLl]
  refine loop_to L.length (fun i st H' => st = (((i : Int), ()), (((none, 0, 0), (0, (0, ()))), ())) ∧ Ext H15 H' ∧ ∀ j a b, j + 1 < i → L[j]? = some a → L[j + 1]? = some b → ordE a b ≠ 0) ⟨rfl, Ext.refl _, fun j a b h => by omega⟩ ?_
  rintro i st H17 next hi ⟨rfl, x17, hne⟩ hnext
  dsimp only
  have xx := x2.trans (x15.trans x17)
  refine cndI (fun hlt => ?_) fun hlt => ?_
  · have hlt := of_decide_eq_true hlt
    obtain ⟨e, he⟩ := get_of (l := L) (i := i) (by omega)
    have hem := List.mem_of_getElem? he
    refine ⟨by omega, by omega, rd_en (s15.ext x17) he fun q o _ k1 k2 => ⟨_, _, _, by simpa using k1, _, by simpa using k2, ?_⟩⟩
    refine jn_intro (fun J => (¬ NoTwo L → ∀ H', Ext H17 H' → J true H') ∧ ((∀ a, 0 < i → L[i - 1]? = some a → ordE a e ≠ 0) → ∀ H', Ext H17 H' → J false H')) ⟨fun hd H29 x29 => cndT rfl (h14 hok (fun h => hd ((noTwo_perm hperm).2 h)) H29 (xx.trans x29)), fun hd H29 x29 => cndF rfl ⟨rfl, hnext _ _ (by omega) ⟨by rw [wrap_id (by omega) (by omega)]; rfl, x17.trans x29, fun j a b hj ha hb => ?_⟩⟩⟩ fun J hJ => cndI (fun hp => ?_) fun hp => ?_
    · by_cases hji : j + 1 = i
      · subst hji
        rw [he] at hb; cases hb
        exact hd a (by omega) (by rw [Nat.add_sub_cancel]; exact ha)
      · exact hne j a b (by omega) ha hb
    · have hp := of_decide_eq_true hp
      have ew : IntKind.i64.wrap ((i : Int) - 1) = ((i - 1 : Nat) : Int) := by rw [wrap_id (by omega) (by omega)]; omega
      obtain ⟨p, hpp⟩ := get_of (l := L) (i := i - 1) (by omega)
      rw [ew]
      refine ⟨by omega, by omega, rd_en (s15.ext x17) hpp fun q o _ k1 k2 => ⟨_, _, _, by simpa using k1, _, by simpa using k2, ?_⟩⟩
      refine c51 ((hkL p (List.mem_of_getElem? hpp)).ext (x15.trans x17)) ((hkL e hem).ext (x15.trans x17)) fun H26 x26 => ⟨_, rfl, ?_⟩
      by_cases hz : ordE p e = 0
      · rw [hz]
        refine hJ.1 (fun hN => ?_) H26 x26
        obtain ⟨a1, a2⟩ := List.getElem?_eq_some_iff.1 hpp
        obtain ⟨a3, a4⟩ := List.getElem?_eq_some_iff.1 he
        have := List.pairwise_iff_getElem.1 hN (i - 1) i a1 a3 (by omega)
        rw [a2, a4] at this
        exact this hz
      · rw [show (ordE p e == 0) = false by simpa using hz]
        exact hJ.2 (fun a _ ha => by rw [hpp] at ha; cases ha; exact hz) H26 x26
    · have hp := of_decide_eq_false hp
      exact hJ.2 (fun a h0 => by omega) H17 (Ext.refl _)
  · have hlt := of_decide_eq_false hlt
    have hii : i = L.length := by omega
    have hS : SrtE L := srt_of hsrt fun j a b ha hb => hne j a b (by have := (List.getElem?_eq_some_iff.1 hb).1; omega) ha hb
    have hno : NoTwo l := (noTwo_perm hperm).1 (srt_noTwo hS)
    refine cndI (fun hbig => ?_) fun hbig => ?_
    · have hbig := of_decide_eq_true hbig
      exact h3 hok hno (by omega) H17 xx
    have hbig := of_decide_eq_false hbig
    have hL4 : L.length ≤ 4000 := by omega
    intro g31 hg31
    have x32 : Ext H17 (upd g31 (.cells [Value.slice none 0 0, .slice none 0 0].toArray 91 (0, 0)) H17) := Ext.new hg31
    have hlenL : ∀ e ∈ L, e.key.length < big := fun e he => by
      have := (ent_len (entL e he)).1
      unfold big; omega
    refine loop_to L.length (fun k st H' => ∃ hh t lo X, st = ((some ⟨t.g, 0, none⟩, ((k : Int), ())), ()) ∧ Ext X H' ∧ Ext H17 X ∧ MemM H' hh t ∧ SepM hh t ∧ FullM lo 8 hh t ∧ (hh = 0 ∨ 1 ≤ lo) ∧ (∀ q ∈ ownM hh t, X q = none) ∧ (∀ e ∈ flatM hh t, KeyAt X e) ∧ (flatM hh t).map sayE = (L.take k).map sayE)
      ⟨0, .mk g31 none 0 [] none 0 [], 0, H17, rfl, x32, Ext.refl _, ⟨⟨⟨91, upd_at⟩, RowO.nil, RowO.nil⟩, rfl⟩, (by show ([g31] : List Nat).Nodup; simp), ⟨rfl, Nat.le_refl _, by simp [MT.es]⟩, .inl rfl, (fun q hq => by
        have hq : q ∈ [g31] := hq
        rw [List.mem_singleton] at hq; subst hq; exact hg31), (fun e he => by cases he), rfl⟩ ?_
    rintro k st H34 next hk' ⟨hh, t, lo, X, rfl, xX, x17X, M, Sp, Fu, hlo, hid, hkey, hsay⟩ hnext
    dsimp only
    have srtT : SrtE (flatM hh t) := srt_say hsay.symm (hS.sublist (List.take_sublist _ _))
    have xH34 := x17X.trans xX
    refine cndI (fun hlt => ?_) fun hlt => ?_
    · have hlt := of_decide_eq_true hlt
      obtain ⟨e, he⟩ := get_of (l := L) (i := k) (by omega)
      have hem := List.mem_of_getElem? he
      refine jn_intro (fun J => ∀ (h' : Nat) (t2 : MT) (lo' : Nat) (X' H' : Hp), Ext X' H' → Ext H17 X' → MemM H' h' t2 → SepM h' t2 → FullM lo' 8 h' t2 → (h' = 0 ∨ 1 ≤ lo') → (∀ q ∈ ownM h' t2, X' q = none) → (∀ e ∈ flatM h' t2, KeyAt X' e) → (flatM h' t2).map sayE = (L.take (k + 1)).map sayE → J (some ⟨t2.g, 0, none⟩) H') (fun h' t2 lo' X' H' a1 a2 a3 a4 a5 a6 a7 a8 a9 => ⟨rfl, hnext _ _ (by omega) ⟨h', t2, lo', X', by rw [wrap_id (by omega) (by omega)]; rfl, a1, a2, a3, a4, a5, a6, a7, a8, a9⟩⟩) fun J hJ => ⟨by omega, by omega, rd_en (s15.ext (x17.trans xH34)) he fun q o _ k1 k2 => ⟨_, _, _, by simpa using k1, _, by simpa using k2, ?_⟩⟩
      refine c37n ((hkL e hem).ext (x15.trans (x17.trans xH34))) (hlenL e hem) fun e' H40 x40 hsay' hke' hnw => ⟨_, _, _, _, rfl, ?_⟩
      have liveT := M.live
      have xXh : Ext X (hideH (ownM hh t) H40) := fun q o hq => by
        show (if q ∈ ownM hh t then none else H40 q) = _
        rw [if_neg (fun hm => by rw [hid q hm] at hq; cases hq)]
        exact x40 q o (xX q o hq)
      have kX : ∀ x ∈ flatM hh t, KeyAt (hideH (ownM hh t) H40) x := fun x hx => (hkey x hx).ext xXh
      have keX : KeyAt (hideH (ownM hh t) H40) e' := hke'.hide fun _ q hq h1 => liveT q h1 (hnw q hq)
      have ltT : ∀ x ∈ flatM hh t, ordE x e' < 0 := fun x hx => by
        obtain ⟨y, hy, e1⟩ := say_mem hsay hx
        obtain ⟨j, hj⟩ := List.mem_iff_getElem?.1 hy
        have hjl := (List.getElem?_eq_some_iff.1 hj).1
        rw [List.length_take] at hjl
        rw [List.getElem?_take_of_lt (by omega)] at hj
        obtain ⟨b1, b2⟩ := List.getElem?_eq_some_iff.1 hj
        obtain ⟨b3, b4⟩ := List.getElem?_eq_some_iff.1 he
        have := List.pairwise_iff_getElem.1 hS j k b1 b3 (by omega)
        rw [b2, b4] at this
        rw [← ord_say e1 hsay'.symm]; exact this
      refine c53 (M.ext x40) Sp Fu hide_ext kX keX (fun q hq => hide_in hq) srtT (fun x hx => by have := ltT x hx; omega) fun H44 t' M44 S44 F44 hg44 P44 Fr44 => ⟨rfl, ?_⟩
      have hX44 : Ext (hideH (ownM hh t) H40) H44 := Fr44.ext hide_ext fun q hq => hide_in hq
      have hid44 := Fr44.hid hide_ext fun q hq => hide_in hq
      have hk44 : ∀ x ∈ flatM hh t', KeyAt (hideH (ownM hh t) H40) x := fun x hx => by
        rcases (P44.mem).1 hx with rfl | h
        · exact keX
        · exact kX x h
      have say44 : (flatM hh t').map sayE = (L.take (k + 1)).map sayE := by
        obtain ⟨a, b, q1, q2, qa, qb⟩ := P44
        have hb0 : b = [] := by
          cases b with
          | nil => rfl
          | cons x r =>
            have p1 := ltT x (by rw [q1]; simp)
            have p2 := qb x (List.mem_cons_self ..)
            have := ordE_ok.anti x e'
            omega
        subst hb0
        rw [q2, take_snoc he, List.map_append, List.map_append]
        rw [q1, List.append_nil] at hsay
        rw [hsay]
        simp [hsay']
      have srt44 := P44.srt srtT
      have len44 : (flatM hh t').length ≤ 4000 := by
        have := congrArg List.length say44
        simp at this; omega
      have ent44 : ∀ x ∈ flatM hh t', entB cols x = true := fun x hx => by
        obtain ⟨y, hy, e1⟩ := say_mem say44 hx
        rw [← ent_say e1]; exact entL y (List.mem_of_mem_take hy)
      rw [← hg44]
      exact out_root M44 S44 F44 hlo hX44 hid44 hk44 hcols srt44 ent44 len44 (J := J) fun h' t2 lo' H' b1 b2 b3 b4 b5 b6 b7 => hJ h' t2 lo' _ H' b4 (x17X.trans xXh) b1 b6 b2 b3 b7 (by rw [b5]; exact hk44) (by rw [b5]; exact say44)
    · have hlt := of_decide_eq_false hlt
      have hkk : k = L.length := by omega
      rw [hkk, List.take_length] at hsay
      have entT : ∀ x ∈ flatM hh t, entB cols x = true := fun x hx => by
        obtain ⟨y, hy, e1⟩ := say_mem hsay hx
        rw [← ent_say e1]; exact entL y hy
      refine ⟨cols, cg H34 (x15.trans (x17.trans xH34)), c55 M Fu hlo hcols ?_ srtT entT (fun x hx => (hkey x hx).ext xX) fun H63 A63 c63' bl x63 O => ⟨_, _, _, _, _, rfl, ?_⟩⟩
      · have := size_le (Fu.widen (hi' := 1000) (by omega))
        have := congrArg List.length hsay
        simp at this
        omega
      · exact h0 hok hno (by omega) H63 A63 c63' bl _ L _ (xx.trans (xH34.trans x63)) hperm hS hsay O
end
end Go.Proofs.YtmelbipidffmpaaGreatDoor.Hw

/- Delete: an entry taken out of a node's own entries. -/
set_option linter.unusedVariables false
set_option linter.unusedSimpArgs false
set_option linter.unusedSectionVars false
set_option maxRecDepth 20000
namespace Go.Proofs.YtmelbipidffmpaaGreatDoor.Hw
open Go Go.Proofs
section
variable {H : Hp} {Q : Value → Hp → Prop}
/-- An entry is taken out of a node's own entries. -/
theorem takeE {t : MT} {i : Nat} {K : Hp → Prop} (N : NodeM H t) (nd : (own1 t).Nodup) (hi : i < t.es.length) (hs : t.es.length < 1000)
    (hk : ∀ H', NodeM H' (.mk t.g t.eA t.ec (t.es.take i ++ t.es.drop (i + 1)) t.kA t.kc t.ks) → FrM H H' (own1 t) (own1 t) → K H') :
    HCalls Tryz.prog 83 [.slice t.eA t.es.length t.ec, .int .i64 (i : Int), .int .i64 ((i + 1 : Nat) : Int)] H fun v9 H10 => ∃ (A11 : Option Addr) (n11 c11 : Nat), v9 = .slice A11 n11 c11 ∧ storeF H10 t.g (0 + 0) [.slice A11 n11 c11] K := by
  obtain ⟨n1, n2, n3⟩ := nd1 nd
  refine f83.ok _ _ _ _ _ ?_
  rw [f83_is]
  refine del_ok N.er (by omega) rfl en_one (Nat.lt_succ_self i) (by omega) (by unfold big; omega) (by omega) fun H10 R10 F10 => ⟨_, _, _, rfl, ?_⟩
  rw [flat_take enC_len, flat_drop enC_len, ← List.flatMap_append] at R10
  have hl : (t.es.take i ++ t.es.drop (i + 1)).length = i + (t.es.length - (i + 1)) := by simp; omega
  have keep : ∀ q, ¬ rowB t.eA q → H q ≠ none → H10 q = H q := fun q hq hn => Classical.byContradiction fun hne => by
    rcases F10.ch q hne with h | h
    · exact hq h
    · exact hn h
  obtain ⟨ty, hc⟩ := N.cell
  have hc10 : ∃ ty, H10 t.g = some (.cells (nodeC t.eA t.es.length t.ec t.kA t.ks.length t.kc).toArray ty (0, 0)) := ⟨ty, (keep _ n1 (by rw [hc]; simp)).trans hc⟩
  have k10 : RowO H10 t.kA t.ks.length t.kc 1 (t.ks.flatMap ptC) := N.kr.keep fun q hq hn => keep q (fun h => n3 q h hq) hn
  refine setE' hc10 k10 hl.symm (by rw [hl]; exact R10) n1 n2 fun H12 N12 off lv => hk H12 N12 ⟨fun q hq => ?_, fun q hq => .inl hq, fun q hq => ?_⟩
  · by_cases e1 : q = t.g
    · subst e1; exact .inl (by simp [own1])
    · rw [off q e1] at hq
      rcases F10.ch q hq with h | h
      · exact .inl (by simp [own1, blk_row, h])
      · exact .inr h
  · by_cases e1 : q = t.g
    · subst e1; exact lv
    · rw [off q e1]
      exact F10.al q hq
/-- remove, at a leaf. -/
theorem c58L {t : MT} {e : EnM} (N : NodeM H t) (hk0 : t.ks = []) (nd : (own1 t).Nodup) (hkey : ∀ x ∈ t.es, KeyAt H x) (he : KeyAt H e) (hsrt : SrtE t.es) (hs : t.es.length < 1000) (hhas : hasE t.es e = true)
    (hq : ∀ H', NodeM H' (.mk t.g t.eA t.ec (t.es.take (cntE t.es e) ++ t.es.drop (cntE t.es e + 1)) t.kA t.kc t.ks) → FrM H H' (own1 t) (own1 t) → Q (.tuple #[]) H') : HCalls Tryz.prog 58 [.pointer (some ⟨t.g, 0, none⟩), enA e] H Q := by
  refine f58.ok _ _ _ _ _ _ ?_
  unfold f58
  have hi : cntE t.es e < t.es.length := by
    unfold hasE at hhas
    cases hg : t.es[cntE t.es e]? with
    | none => rw [hg] at hhas; cases hhas
    | some x => exact (List.getElem?_eq_some_iff.1 hg).1
  refine c78 N hkey he hsrt (by unfold big; omega) fun H2 x2 => ⟨_, _, rfl, ?_⟩
  have N2 := N.ext x2
  rw [hhas]
  have ei : IntKind.i64.wrap (((cntE t.es e : Nat) : Int) + 1) = ((cntE t.es e + 1 : Nat) : Int) := by rw [wrap_id (by omega) (by omega)]; omega
  rw [ei]
  refine jn_intro (fun J => J true) (cndT rfl ⟨_, _, _, N2.cl0, takeE N2 nd hi hs fun H12 N12 F12 => hq H12 N12 ((FrM.ofExt x2).trans F12)⟩) fun J hJ => ⟨_, _, _, N2.cl1, cndT (by rw [hk0]; rfl) hJ⟩
end
end Go.Proofs.YtmelbipidffmpaaGreatDoor.Hw

/- slices.Grow, slices.Concat of entries; two nodes put together. -/
set_option linter.unusedVariables false
set_option linter.unusedSimpArgs false
set_option linter.unusedSectionVars false
set_option maxRecDepth 20000
namespace Go.Proofs.YtmelbipidffmpaaGreatDoor.Hw
open Go Go.Proofs
structure SlM where
  A : Option Addr
  n : Nat
  c : Nat
  l : List EnM
def smC (x : SlM) : List Value := [.slice x.A x.n x.c]
def allM (ls : List SlM) : List EnM := ls.flatMap SlM.l
section
variable {H : Hp} {A : Option Addr} {n c : Nat} {Q : Value → Hp → Prop}
theorem c137 {k : Nat} (hk : k < 1000) (hq : ∀ A' c' H', Ext H H' → RowO H' A' 0 c' 2 [] → k ≤ c' → (∀ q, rowB A' q → H q = none) → Q (.slice A' 0 c') H') : HCalls Tryz.prog 137 [.slice none 0 0, .int .i64 (k : Int)] H Q := by
  refine f137.ok _ _ _ _ ?_
  unfold f137
  have e1 : IntKind.i64.wrap (((0 : Nat) : Int) - ((0 : Nat) : Int)) = 0 := by rw [wrap_id (by omega) (by omega)]; omega
  have e2 : IntKind.i64.wrap ((k : Int) - 0) = (k : Int) := by rw [wrap_id (by omega) (by omega)]; omega
  rw [e1, e2]
  refine cndF (decide_eq_false (by omega)) (jn_intro (fun J => ∀ A' c' H', Ext H H' → RowO H' A' 0 c' 2 [] → k ≤ c' → (∀ q, rowB A' q → H q = none) → J A' 0 c' H') hq fun J hJ => cndI (fun h => ?_) fun h => ?_)
  · have h := of_decide_eq_true h
    simp only [cut_zero, Nat.sub_zero, Int.toNat_natCast]
    refine ⟨by omega, by omega, by omega, by omega, by rw [Int.toNat_natCast]; omega, by rw [Int.toNat_natCast]; omega, [], rfl, .inl rfl, fun b cap rest hb h1 h2 h3 => ⟨by omega, by omega, ?_⟩⟩
    rw [Int.toNat_natCast] at h1 h3 ⊢
    have hz : ((List.replicate k [Value.slice none 0 0, .int .i64 0]).flatten).length = k * 2 := flat_rep rfl
    refine hJ _ cap _ (Ext.new hb) ⟨rfl, Nat.zero_le _, .inr ⟨b, 0, _, 46, rfl, upd_at, ?_, fun j v hj => by simp at hj⟩⟩ (by omega) fun q ⟨o, z, hh⟩ => by cases hh; exact hb
    rw [List.length_append, List.length_append, hz, h3, List.length_nil]
    omega
  · have h := of_decide_eq_false h
    exact hJ none 0 H (Ext.refl _) RowO.nil (by omega) fun q ⟨o, z, hh⟩ => by cases hh
theorem rd_sm {l : List SlM} {i : Nat} {x : SlM} (h : SlAt smC H A n l) (hi : l[i]? = some x) {K : Nat → Nat → Prop}
    (hk : ∀ p o, A = some ⟨p, o, none⟩ → cl H p (o + i * 1) = some (.slice x.A x.n x.c) → K p o) : onPtr A K := by
  have hlen : ∀ x ∈ l, (smC x).length = 1 := fun x _ => rfl
  have hne : l ≠ [] := fun e => by subst e; simp at hi
  refine at_cells h.cells (flat_ne hlen (by omega) hne) fun p o hA hc => hk p o hA ?_
  have := hc (i * 1 + 0) _ (flat_get hlen hi (by omega))
  rw [Nat.add_zero] at this
  exact this
theorem all_snoc {ls : List SlM} {i : Nat} {x : SlM} (h : ls[i]? = some x) : allM (ls.take (i + 1)) = allM (ls.take i) ++ x.l := by
  unfold allM
  rw [take_snoc h, List.flatMap_append]
  simp
theorem all_le {ls : List SlM} {i : Nat} : (allM (ls.take i)).length ≤ (allM ls).length := by
  conv => rhs; rw [← List.take_append_drop i ls]
  unfold allM
  rw [List.flatMap_append, List.length_append]
  omega
theorem c124 {ls : List SlM} (hA : SlAt smC H A n ls) (hm : ∀ x ∈ ls, x.n = x.l.length ∧ cellsAt H x.A (x.l.flatMap enC)) (hs : (allM ls).length < 1000)
    (hq : ∀ A' c' H', Ext H H' → RowO H' A' (allM ls).length c' 2 ((allM ls).flatMap enC) → (∀ q, rowB A' q → H q = none) → Q (.slice A' (allM ls).length c') H') : HCalls Tryz.prog 124 [.slice A n c] H Q := by
  refine f124.ok _ _ _ ?_
  unfold f124
  obtain rfl := hA.len
  have hlt := hA.lt
  refine loop_to ls.length (fun i st H' => st = (((((allM (ls.take i)).length : Nat) : Int), ((i : Int), ())), ()) ∧ H' = H) ⟨rfl, rfl⟩ ?_
  rintro i st H2 next hi ⟨rfl, rfl⟩ hnext
  dsimp only
  refine cndI (fun h => ?_) fun h => ?_
  · have h := of_decide_eq_true h
    obtain ⟨x, hx⟩ := get_of (l := ls) (i := i) (by omega)
    have hxn := (hm x (List.mem_of_getElem? hx)).1
    have e1 := all_snoc hx
    have e2 := all_le (ls := ls) (i := i + 1)
    have e3 : (allM (ls.take (i + 1))).length = (allM (ls.take i)).length + x.l.length := by rw [e1, List.length_append]
    have ew : IntKind.i64.wrap ((((allM (ls.take i)).length : Nat) : Int) + ((x.n : Nat) : Int)) = (((allM (ls.take (i + 1))).length : Nat) : Int) := by rw [wrap_id (by omega) (by omega)]; omega
    refine ⟨by omega, by omega, rd_sm hA hx fun q o _ k1 => ⟨_, _, _, by simpa using k1, ?_⟩⟩
    rw [ew]
    refine cndF (decide_eq_false (by omega)) ⟨rfl, hnext _ _ (by omega) ⟨by rw [wrap_id (by omega) (by omega)]; rfl, rfl⟩⟩
  · have h := of_decide_eq_false h
    have hin : i = ls.length := by omega
    subst hin
    rw [List.take_length]
    refine c137 hs fun A8 c8 H7 x7 R7 hc8 nw7 => ⟨_, _, _, rfl, ?_⟩
    refine loop_to ls.length (fun i st H' => ∃ A' c', st = (((A', (allM (ls.take i)).length, c'), ((i : Int), ())), ()) ∧ Ext H2 H' ∧ RowO H' A' (allM (ls.take i)).length c' 2 ((allM (ls.take i)).flatMap enC) ∧ ∀ q, rowB A' q → H2 q = none) ⟨A8, c8, rfl, x7, R7, nw7⟩ ?_
    rintro i st H10 next' hi' ⟨A', c', rfl, x10, R10, nw10⟩ hnext'
    dsimp only
    refine cndI (fun h => ?_) fun h => ?_
    · have h := of_decide_eq_true h
      obtain ⟨x, hx⟩ := get_of (l := ls) (i := i) (by omega)
      obtain ⟨hxn, hxc⟩ := hm x (List.mem_of_getElem? hx)
      have e1 := all_snoc hx
      have e2 := all_le (ls := ls) (i := i + 1)
      have e3 : (allM (ls.take (i + 1))).length = (allM (ls.take i)).length + x.l.length := by rw [e1, List.length_append]
      refine ⟨by omega, by omega, rd_sm (hA.ext x10) hx fun q o _ k1 => ⟨_, _, _, by simpa using k1, ?_⟩⟩
      rw [hxn]
      refine R10.append (new := x.l.flatMap enC) (cellsAt_ext x10 hxc) (flat_length fun x _ => enC_len x) en_one (by unfold big; omega) (by omega) fun A14 c14 H15 R15 F15 _ => ⟨rfl, hnext' _ _ (by omega) ⟨A14, c14, ?_, F15.ext x10 nw10, ?_, fun q hq => ?_⟩⟩
      · rw [wrap_id (by omega) (by omega), e3]; rfl
      · rw [e3, e1, List.flatMap_append]; exact R15
      · rcases F15.nw q hq with h1 | h1
        · exact nw10 q h1
        · exact x10.none h1
    · have h := of_decide_eq_false h
      have hin : i = ls.length := by omega
      subst hin
      rw [List.take_length] at R10 ⊢
      exact hq A' c' H10 x10 R10 nw10
end
section
variable {H0 H : Hp} {O : List Nat} {t p q : MT} {j : Nat} {s : EnM} {Q : Value → Hp → Prop}
theorem c105 (T : Tri H0 H O t p q) (hp : t.ks[j]? = some p) (hq' : t.ks[j + 1]? = some q) (hs : t.es[j]? = some s)
    (b1 : t.es.length < 400) (b2 : t.ks.length < 400) (b3 : p.es.length < 400) (b4 : q.es.length < 400) (b5 : p.ks.length < 400) (b6 : q.ks.length < 400)
    (hq : ∀ H' t' p' q', Tri H0 H' O t' p' q' → t'.g = t.g → t'.ks = t.ks.take (j + 1) ++ t.ks.drop (j + 2) → t'.es = t.es.take j ++ t.es.drop (j + 1) → p'.g = p.g → p'.es = p.es ++ s :: q.es → p'.ks = p.ks ++ q.ks → Q (.tuple #[]) H') :
    HCalls Tryz.prog 105 [.pointer (some ⟨t.g, 0, none⟩), .int .i64 ((j : Nat) : Int)] H Q := by
  have jt := (List.getElem?_eq_some_iff.1 hp).1
  have jt' := (List.getElem?_eq_some_iff.1 hq').1
  have je := (List.getElem?_eq_some_iff.1 hs).1
  have ew : IntKind.i64.wrap (((j : Nat) : Int) + 1) = ((j + 1 : Nat) : Int) := by rw [wrap_id (by omega) (by omega)]; omega
  have ew2 : IntKind.i64.wrap (((j : Nat) : Int) + 2) = ((j + 1 + 1 : Nat) : Int) := by rw [wrap_id (by omega) (by omega)]; omega
  have hle := T.na.er.le
  refine f105.ok _ _ _ ?_
  unfold f105
  rw [ew, ew2]
  refine ⟨_, _, _, T.na.cl1, by omega, by omega, rd_pt (T.na.ksAt (by unfold huge; omega)) hp fun q1 o1 _ kp => ⟨_, by simpa using kp, _, _, _, T.na.cl1, by omega, by omega, rd_pt (T.na.ksAt (by unfold huge; omega)) hq' fun q2 o2 _ kq => ⟨_, by simpa using kq, onPtrI ⟨_, _, _, T.nb.cl0, _, _, _, T.na.cl0, by omega, by omega, by omega, by omega, onPtrI ⟨_, _, _, T.nc.cl0, fun g12 hg12 => ?_⟩⟩⟩⟩⟩
  simp only [onPtr_at, Int.toNat_natCast]
  have e1 : j + 1 - j = 1 := by omega
  rw [e1]
  have x13 : Ext H (upd g12 (.cells [Value.slice p.eA p.es.length p.ec, .slice (cutA t.eA (j * 2) (decide (t.ec = j))) 1 (t.ec - j), .slice q.eA q.es.length q.ec].toArray 28 (0, 0)) H) := Ext.new hg12
  have hmid : cellsAt H (cutA t.eA (j * 2) (decide (t.ec = j))) ([s].flatMap enC) := by
    have D := (T.na.er.drop (p := j) (by omega) (by omega)).take (p := 1) (by omega)
    rw [flat_drop enC_len, flat_take enC_len] at D
    have e : (t.es.drop j).take 1 = [s] := by
      rw [List.drop_eq_getElem_cons je, (List.getElem?_eq_some_iff.1 hs).2]; rfl
    rw [e] at D
    exact D.cells
  have eall : allM [⟨p.eA, p.es.length, p.ec, p.es⟩, ⟨cutA t.eA (j * 2) (decide (t.ec = j)), 1, t.ec - j, [s]⟩, ⟨q.eA, q.es.length, q.ec, q.es⟩] = p.es ++ s :: q.es := by simp [allM]
  have lall : (p.es ++ s :: q.es).length = p.es.length + q.es.length + 1 := by simp; omega
  refine c124 (ls := [⟨p.eA, p.es.length, p.ec, p.es⟩, ⟨cutA t.eA (j * 2) (decide (t.ec = j)), 1, t.ec - j, [s]⟩, ⟨q.eA, q.es.length, q.ec, q.es⟩]) (fresh_sl (l := [⟨p.eA, p.es.length, p.ec, p.es⟩, ⟨cutA t.eA (j * 2) (decide (t.ec = j)), 1, t.ec - j, [s]⟩, ⟨q.eA, q.es.length, q.ec, q.es⟩]) (f := smC) rfl (by simp [huge])) (fun x hx => ?_) (by rw [eall, lall]; omega) fun A16 c16 H15 x15 R15 nw15 => ⟨_, _, _, rfl, ?_⟩
  · simp only [List.mem_cons, List.not_mem_nil, or_false] at hx
    rcases hx with rfl | rfl | rfl
    · exact ⟨rfl, cellsAt_ext x13 T.nb.er.cells⟩
    · exact ⟨rfl, cellsAt_ext x13 hmid⟩
    · exact ⟨rfl, cellsAt_ext x13 T.nc.er.cells⟩
  rw [eall] at R15 ⊢
  have xx := x13.trans x15
  have F15 : FrO H H15 p.eA A16 := ⟨fun z hz => .inr (Classical.byContradiction fun hn => hz (ext_at xx hn)), fun z hz => .inr (x13.none (nw15 z hz)), fun z hz => by rw [ext_at xx hz]; exact hz⟩
  refine setE_fr T.nb T.ndb rfl R15 F15 fun H18 N18 nd18 F18 => ?_
  have T1 := T.put2 N18 nd18 F18
  refine ⟨_, _, _, T1.nb.cl1, _, _, _, T1.nc.cl1, ?_⟩
  refine apKs T1.nb T1.ndb T1.nc (by show p.ks.length + q.ks.length < 1000; omega) fun H26 A26 c26 N26 nd26 F26 => ?_
  have T2 := T1.put2 N26 nd26 F26
  refine ⟨_, _, _, T2.na.cl0, ?_⟩
  refine takeE (i := j) T2.na T2.nda je (by omega) fun H31 N31 F31 => ?_
  have T3 := T2.put1 N31 T2.nda F31
  refine ⟨_, _, _, T3.na.cl1, ?_⟩
  refine takeK (i := j + 1) T3.na T3.nda jt' (by show t.ks.length < 1000; omega) fun H36 N36 nd36 F36 => ?_
  have T4 := T3.put1 N36 nd36 F36
  exact hq H36 _ _ _ T4 rfl rfl rfl rfl rfl rfl
end
end Go.Proofs.YtmelbipidffmpaaGreatDoor.Hw

/- Nodes: mend. -/
set_option linter.unusedVariables false
set_option linter.unusedSimpArgs false
set_option linter.unusedSectionVars false
set_option maxRecDepth 20000
namespace Go.Proofs.YtmelbipidffmpaaGreatDoor.Hw
open Go Go.Proofs
section
variable {H H' : Hp} {h : Nat} {t t' p q p' q' u : MT} {K1 K2 : List MT} {j : Nat} {s x : EnM}
theorem tri_of (M : MemM H (h + 1) t) (S : SepM (h + 1) t) (hk : t.ks = K1 ++ ([p, q] ++ K2)) : Tri H H (own1 t ++ own1 p ++ own1 q) t p q := by
  obtain ⟨s1, s2, s3⟩ := S
  have hp : p ∈ t.ks := by rw [hk]; simp
  have hq : q ∈ t.ks := by rw [hk]; simp
  have hpq : Apart h p q := by
    rw [hk, List.pairwise_append, List.pairwise_append] at s3
    have := s3.2.1.1
    rw [List.pairwise_cons] at this
    exact this.1 q (by simp)
  refine ⟨M.1, (M.2 p hp).node, (M.2 q hq).node, ?_, FrM.refl⟩
  rw [List.append_assoc, List.nodup_append, List.nodup_append]
  refine ⟨s1, ⟨(s2 p hp).1.one, (s2 q hq).1.one, fun a ha b hb e => hpq a (own1_sub ha) (by rw [e]; exact own1_sub hb)⟩, fun a ha b hb e => ?_⟩
  subst e
  rcases List.mem_append.1 hb with hb | hb
  · exact (s2 p hp).2 a (own1_sub hb) ha
  · exact (s2 q hq).2 a (own1_sub hb) ha
theorem pair_same (e1 : p'.g = p.g) (e2 : q'.g = q.g) : (K1 ++ ([p', q'] ++ K2)).flatMap ptC = (K1 ++ ([p, q] ++ K2)).flatMap ptC := by
  simp only [List.flatMap_append, List.flatMap_cons, List.flatMap_nil, ptC, e1, e2]
/-- What has come of a node and two kids: as before, but for where things stand. -/
structure Same (H H' : Hp) (h : Nat) (t t2 : MT) : Prop where
  g : t2.g = t.g
  mem : MemM H' (h + 1) t2
  sep : SepM (h + 1) t2
  full : FullM (t.es.length - 1) 8 (h + 1) t2
  flat : flatM (h + 1) t2 = flatM (h + 1) t
  fr : FrM H H' (ownM (h + 1) t) (ownM (h + 1) t2)
theorem pair_end (M : MemM H (h + 1) t) (S : SepM (h + 1) t) (hk : t.ks = K1 ++ ([p, q] ++ K2)) (T : Tri H H' (own1 t ++ own1 p ++ own1 q) t' p' q') (eg : t'.g = t.g) (ek : t'.ks = t.ks) (ee : t'.es = t.es.set j x) (egp : p'.g = p.g) (egq : q'.g = q.g)
    (hLk : p'.ks ++ q'.ks = p.ks ++ q.ks) (hj : K1.length = j) (hs : t.es[j]? = some s) (hfl : flatM h p' ++ x :: flatM h q' = flatM h p ++ s :: flatM h q) (Fp : FullM 3 8 h p') (Fq : FullM 3 8 h q') (fo : ∀ v, v ∈ K1 ∨ v ∈ K2 → FullM 3 8 h v) (hkl : t.ks.length = t.es.length + 1) (h8 : t.es.length ≤ 8) :
    ∃ t2, Same H H' h t t2 := by
  have hjl := (List.getElem?_eq_some_iff.1 hs).1
  obtain ⟨t2, ht2⟩ : ∃ t2 : MT, t2 = .mk t'.g t'.eA t'.ec t'.es t'.kA t'.kc (K1 ++ ([p', q'] ++ K2)) := ⟨_, rfl⟩
  have T2 := T.same1 (ks' := K1 ++ ([p', q'] ++ K2)) (by rw [ek, hk]; exact pair_same egp egq)
  rw [← ht2] at T2
  have k2 : t2.ks = K1 ++ ([p', q'] ++ K2) := by rw [ht2]; rfl
  have e2 : t2.es = t.es.set j x := by rw [ht2]; exact ee
  obtain ⟨a1, a2, a3⟩ := two_done M S hk T2 (.inl rfl) (by simpa using hLk) k2
  have es1 : t.es = t.es.take j ++ s :: t.es.drop (j + 1) := kids_split hs
  have es2 : t2.es = t.es.take j ++ x :: t.es.drop (j + 1) := by rw [e2, List.set_eq_take_append_cons_drop, if_pos hjl]
  have hl : K1.length = (t.es.take j).length := by rw [List.length_take]; omega
  refine ⟨t2, by rw [ht2]; exact eg, a1, a2, ⟨?_, ?_, ?_, fun v hv => ?_⟩, ?_, a3⟩
  · rw [k2, e2, List.length_set, ← hkl, hk]; simp
  · rw [e2, List.length_set]; omega
  · rw [e2, List.length_set]; omega
  · rw [k2] at hv
    rcases List.mem_append.1 hv with hv | hv
    · exact fo v (.inl hv)
    · rcases List.mem_append.1 hv with hv | hv
      · simp only [List.mem_cons, List.not_mem_nil, or_false] at hv
        rcases hv with rfl | rfl
        · exact Fp
        · exact Fq
      · exact fo v (.inr hv)
  · rw [flat_pair (h := h) k2 es2 hl, flat_pair (h := h) hk es1 hl, hfl]
theorem one_end (M : MemM H (h + 1) t) (S : SepM (h + 1) t) (hk : t.ks = K1 ++ ([p, q] ++ K2)) (T : Tri H H' (own1 t ++ own1 p ++ own1 q) t' p' q') (eg : t'.g = t.g) (ek : t'.ks = t.ks.take (j + 1) ++ t.ks.drop (j + 2)) (ee : t'.es = t.es.take j ++ t.es.drop (j + 1)) (egp : p'.g = p.g)
    (hLk : p'.ks = p.ks ++ q.ks) (hj : K1.length = j) (hs : t.es[j]? = some s) (hfl : flatM h p' = flatM h p ++ s :: flatM h q) (Fp : FullM 3 8 h p') (fo : ∀ v, v ∈ K1 ∨ v ∈ K2 → FullM 3 8 h v) (hkl : t.ks.length = t.es.length + 1) (h8 : t.es.length ≤ 8) :
    ∃ t2, Same H H' h t t2 := by
  have hjl := (List.getElem?_eq_some_iff.1 hs).1
  have kk : t'.ks = K1 ++ ([p] ++ K2) := by
    have e1 : t.ks.take (j + 1) = K1 ++ [p] := by
      have : t.ks = (K1 ++ [p]) ++ (q :: K2) := by rw [hk]; simp
      rw [this, List.take_left' (by simp; omega)]
    have e2 : t.ks.drop (j + 2) = K2 := by
      have : t.ks = (K1 ++ [p, q]) ++ K2 := by rw [hk]; simp
      rw [this, List.drop_left' (by simp; omega)]
    rw [ek, e1, e2]; simp
  obtain ⟨t2, ht2⟩ : ∃ t2 : MT, t2 = .mk t'.g t'.eA t'.ec t'.es t'.kA t'.kc (K1 ++ ([p'] ++ K2)) := ⟨_, rfl⟩
  have T2 := T.same1 (ks' := K1 ++ ([p'] ++ K2)) (by rw [kk]; simp only [List.flatMap_append, List.flatMap_cons, List.flatMap_nil, ptC, egp])
  rw [← ht2] at T2
  have k2 : t2.ks = K1 ++ ([p'] ++ K2) := by rw [ht2]; rfl
  have e2 : t2.es = t.es.take j ++ t.es.drop (j + 1) := by rw [ht2]; exact ee
  obtain ⟨a1, a2, a3⟩ := two_done M S hk T2 (.inr rfl) (by simpa using hLk) k2
  have es1 : t.es = t.es.take j ++ s :: t.es.drop (j + 1) := kids_split hs
  have hl : K1.length = (t.es.take j).length := by rw [List.length_take]; omega
  have el : t2.es.length = t.es.length - 1 := by rw [e2]; simp; omega
  refine ⟨t2, by rw [ht2]; exact eg, a1, a2, ⟨?_, by omega, by omega, fun v hv => ?_⟩, ?_, a3⟩
  · rw [el, k2]
    have := hkl
    rw [hk] at this
    simp at this ⊢
    omega
  · rw [k2] at hv
    rcases List.mem_append.1 hv with hv | hv
    · exact fo v (.inl hv)
    · rcases List.mem_append.1 hv with hv | hv
      · simp only [List.mem_cons, List.not_mem_nil, or_false] at hv
        subst hv
        exact Fp
      · exact fo v (.inr hv)
  · rw [flat_one (h := h) k2 e2 hl, flat_pair (h := h) hk es1 hl, hfl]
end
section
variable {H : Hp} {h : Nat} {t p q u : MT} {K1 K2 : List MT} {j i : Nat} {Q : Value → Hp → Prop}
theorem at_pair (hk : t.ks = K1 ++ ([p, q] ++ K2)) (hj : K1.length = j) : t.ks[j]? = some p ∧ t.ks[j + 1]? = some q := by
  rw [hk, ← hj]
  refine ⟨by simp, ?_⟩
  rw [List.getElem?_append_right (by omega), show K1.length + 1 - K1.length = 1 by omega]; rfl
theorem mend_left (M : MemM H (h + 1) t) (S : SepM (h + 1) t) (hk : t.ks = K1 ++ ([p, q] ++ K2)) (hj : K1.length = j) (hkl : t.ks.length = t.es.length + 1) (h8 : t.es.length ≤ 8) (fo : ∀ v, v ∈ K1 ∨ v ∈ K2 → FullM 3 8 h v) (fp : FullM 4 8 h p) (fq : FullM 2 7 h q)
    (hq : ∀ H' t2, Same H H' h t t2 → Q (.tuple #[]) H') : HCalls Tryz.prog 103 [.pointer (some ⟨t.g, 0, none⟩), .int .i64 ((j + 1 : Nat) : Int)] H Q := by
  obtain ⟨a1, a2⟩ := at_pair hk hj
  have ptop := fp.top
  have qtop := fq.top
  obtain ⟨z1, z2⟩ := full_kids fp
  obtain ⟨y1, y2⟩ := full_kids fq
  have ll : t.ks.length = K1.length + 2 + K2.length := by rw [hk]; simp; omega
  obtain ⟨s, hs⟩ := get_of (l := t.es) (i := j) (by omega)
  obtain ⟨Pe, x, hx⟩ : ∃ Pe x, p.es = Pe ++ [x] := ⟨_, _, (List.dropLast_concat_getLast (by intro e; rw [e] at ptop; simp at ptop)).symm⟩
  have pl : p.es.length = Pe.length + 1 := by rw [hx]; simp
  have pk : p.ks.length ≤ 9 := by
    cases h with
    | zero => rw [z1 rfl]; simp
    | succ h => have := (z2 h rfl).1; omega
  have qk : q.ks.length ≤ 9 := by
    cases h with
    | zero => rw [y1 rfl]; simp
    | succ h => have := (y2 h rfl).1; omega
  refine c103 (tri_of M S hk) a1 a2 hs hx ?_ (by omega) (by omega) (by omega) (by omega) (by omega) fun H' t' p' q' T eg ek ee egp epe egq eqe hks => ?_
  · cases h with
    | zero => exact .inl (z1 rfl)
    | succ h =>
      have hl := (z2 h rfl).1
      refine .inr ⟨_, _, (List.dropLast_concat_getLast (by intro e; rw [e] at hl; simp at hl)).symm, ?_⟩
      rw [List.length_dropLast]; omega
  · have hpe' : p'.es.length = Pe.length := by rw [epe]
    have hqe' : q'.es.length = q.es.length + 1 := by rw [eqe]; simp
    have hcase : (h = 0 ∧ p.ks = [] ∧ q.ks = [] ∧ p'.ks = [] ∧ q'.ks = []) ∨ ∃ h' Pk z, h = h' + 1 ∧ p.ks = Pk ++ [z] ∧ Pk.length = Pe.length + 1 ∧ p'.ks = Pk ∧ q'.ks = z :: q.ks := by
      cases h with
      | zero =>
        left
        rcases hks with ⟨b1, b2, b3⟩ | ⟨Pk, z, b1, _⟩
        · exact ⟨rfl, b1, y1 rfl, b2, by rw [b3]; exact y1 rfl⟩
        · rw [z1 rfl] at b1; simp at b1
      | succ h =>
        right
        rcases hks with ⟨b1, b2, b3⟩ | ⟨Pk, z, b⟩
        · have := (z2 h rfl).1; rw [b1] at this; simp at this
        · exact ⟨h, Pk, z, rfl, b⟩
    obtain ⟨t2, ht2⟩ := pair_end (x := x) (s := s) M S hk T eg ek ee egp egq (by
      rcases hcase with ⟨_, b1, b2, b3, b4⟩ | ⟨h', Pk, z, _, b1, _, b3, b4⟩
      · rw [b1, b2, b3, b4]
      · rw [b1, b3, b4]; simp) hj hs (by
      rcases hcase with ⟨b0, _⟩ | ⟨h', Pk, z, b0, b1, b2, b3, b4⟩
      · exact flat_left (z := t) (Pk := []) hx epe eqe (.inl b0)
      · exact flat_left hx epe eqe (.inr ⟨b1, b2, b3, b4⟩))
      (full_of (fun e => by
        rcases hcase with ⟨_, b1, b2, b3, b4⟩ | ⟨h', _, _, e', _⟩
        · exact b3
        · omega) (fun h' e => by
        rcases hcase with ⟨e', _⟩ | ⟨h'', Pk, z, e', b1, b2, b3, b4⟩
        · omega
        · obtain rfl : h' = h'' := by omega
          refine ⟨by rw [b3]; omega, fun v hv => (z2 h' e).2 v ?_⟩
          rw [b3] at hv; rw [b1]; exact List.mem_append_left _ hv) (by omega) (by omega))
      (full_of (fun e => by
        rcases hcase with ⟨_, b1, b2, b3, b4⟩ | ⟨h', _, _, e', _⟩
        · exact b4
        · omega) (fun h' e => by
        rcases hcase with ⟨e', _⟩ | ⟨h'', Pk, z, e', b1, b2, b3, b4⟩
        · omega
        · obtain rfl : h' = h'' := by omega
          have hyl := (y2 h' e).1
          refine ⟨by rw [b4, hqe', List.length_cons, hyl], fun v hv => ?_⟩
          rw [b4] at hv
          rcases List.mem_cons.1 hv with rfl | hv
          · exact (z2 h' e).2 _ (by rw [b1]; simp)
          · exact (y2 h' e).2 v hv) (by omega) (by omega)) fo hkl h8
    exact hq H' t2 ht2
theorem mend_right (M : MemM H (h + 1) t) (S : SepM (h + 1) t) (hk : t.ks = K1 ++ ([p, q] ++ K2)) (hj : K1.length = j) (hkl : t.ks.length = t.es.length + 1) (h8 : t.es.length ≤ 8) (fo : ∀ v, v ∈ K1 ∨ v ∈ K2 → FullM 3 8 h v) (fp : FullM 2 7 h p) (fq : FullM 4 8 h q)
    (hq : ∀ H' t2, Same H H' h t t2 → Q (.tuple #[]) H') : HCalls Tryz.prog 104 [.pointer (some ⟨t.g, 0, none⟩), .int .i64 ((j : Nat) : Int)] H Q := by
  obtain ⟨a1, a2⟩ := at_pair hk hj
  have ptop := fp.top
  have qtop := fq.top
  obtain ⟨z1, z2⟩ := full_kids fp
  obtain ⟨y1, y2⟩ := full_kids fq
  have ll : t.ks.length = K1.length + 2 + K2.length := by rw [hk]; simp; omega
  obtain ⟨s, hs⟩ := get_of (l := t.es) (i := j) (by omega)
  obtain ⟨x, Qe, hx⟩ : ∃ x Qe, q.es = x :: Qe := by
    cases he : q.es with
    | nil => rw [he] at qtop; simp at qtop
    | cons x r => exact ⟨x, r, rfl⟩
  have ql : q.es.length = Qe.length + 1 := by rw [hx]; simp
  have pk : p.ks.length ≤ 9 := by
    cases h with
    | zero => rw [z1 rfl]; simp
    | succ h => have := (z2 h rfl).1; omega
  have qk : q.ks.length ≤ 9 := by
    cases h with
    | zero => rw [y1 rfl]; simp
    | succ h => have := (y2 h rfl).1; omega
  refine c104 (tri_of M S hk) a1 a2 hs hx (by omega) ?_ (by omega) (by omega) (by omega) (by omega) (by omega) (by omega) fun H' t' p' q' T eg ek ee egp epe egq eqe hks => ?_
  · cases h with
    | zero => exact .inl (y1 rfl)
    | succ h =>
      have hl := (y2 h rfl).1
      cases hz : q.ks with
      | nil => rw [hz] at hl; simp at hl
      | cons z r => rw [hz] at hl; exact .inr ⟨z, r, rfl, by simp at hl; omega⟩
  · have hqe' : q'.es.length = Qe.length := by rw [eqe]
    have hpe' : p'.es.length = p.es.length + 1 := by rw [epe]; simp
    have hcase : (h = 0 ∧ p.ks = [] ∧ q.ks = [] ∧ p'.ks = [] ∧ q'.ks = []) ∨ ∃ h' z Qk, h = h' + 1 ∧ q.ks = z :: Qk ∧ q'.ks = Qk ∧ p'.ks = p.ks ++ [z] := by
      cases h with
      | zero =>
        left
        rcases hks with ⟨b1, b2, b3⟩ | ⟨z, Qk, b1, _⟩
        · exact ⟨rfl, z1 rfl, b1, by rw [b3]; exact z1 rfl, b2⟩
        · rw [y1 rfl] at b1; simp at b1
      | succ h =>
        right
        rcases hks with ⟨b1, b2, b3⟩ | ⟨z, Qk, b⟩
        · have := (y2 h rfl).1; rw [b1] at this; simp at this
        · exact ⟨h, z, Qk, rfl, b⟩
    obtain ⟨t2, ht2⟩ := pair_end (x := x) (s := s) M S hk T eg ek ee egp egq (by
      rcases hcase with ⟨_, b1, b2, b3, b4⟩ | ⟨h', z, Qk, _, b1, b3, b4⟩
      · rw [b1, b2, b3, b4]
      · rw [b1, b3, b4]; simp) hj hs (by
      rcases hcase with ⟨b0, _⟩ | ⟨h', z, Qk, b0, b1, b3, b4⟩
      · exact flat_right (z := t) (Qk := []) hx eqe epe (.inl b0)
      · exact flat_right hx eqe epe (.inr ⟨b1, (z2 h' b0).1, b3, b4⟩))
      (full_of (fun e => by
        rcases hcase with ⟨_, b1, b2, b3, b4⟩ | ⟨h', _, _, e', _⟩
        · exact b3
        · omega) (fun h' e => by
        rcases hcase with ⟨e', _⟩ | ⟨h'', z, Qk, e', b1, b3, b4⟩
        · omega
        · obtain rfl : h' = h'' := by omega
          have hyl := (z2 h' e).1
          refine ⟨by rw [b4, hpe', List.length_append, hyl]; rfl, fun v hv => ?_⟩
          rw [b4] at hv
          rcases List.mem_append.1 hv with hv | hv
          · exact (z2 h' e).2 v hv
          · rw [List.mem_singleton] at hv; subst hv; exact (y2 h' e).2 _ (by rw [b1]; simp)) (by omega) (by omega))
      (full_of (fun e => by
        rcases hcase with ⟨_, b1, b2, b3, b4⟩ | ⟨h', _, _, e', _⟩
        · exact b4
        · omega) (fun h' e => by
        rcases hcase with ⟨e', _⟩ | ⟨h'', z, Qk, e', b1, b3, b4⟩
        · omega
        · obtain rfl : h' = h'' := by omega
          have hyl := (y2 h' e).1
          rw [b1] at hyl
          refine ⟨by rw [b3]; simp at hyl; omega, fun v hv => (y2 h' e).2 v ?_⟩
          rw [b3] at hv; rw [b1]; exact List.mem_cons_of_mem _ hv) (by omega) (by omega)) fo hkl h8
    exact hq H' t2 ht2
theorem mend_both (M : MemM H (h + 1) t) (S : SepM (h + 1) t) (hk : t.ks = K1 ++ ([p, q] ++ K2)) (hj : K1.length = j) (hkl : t.ks.length = t.es.length + 1) (h8 : t.es.length ≤ 8) (fo : ∀ v, v ∈ K1 ∨ v ∈ K2 → FullM 3 8 h v) (fp : FullM 2 3 h p) (fq : FullM 2 3 h q)
    (hq : ∀ H' t2, Same H H' h t t2 → Q (.tuple #[]) H') : HCalls Tryz.prog 105 [.pointer (some ⟨t.g, 0, none⟩), .int .i64 ((j : Nat) : Int)] H Q := by
  obtain ⟨a1, a2⟩ := at_pair hk hj
  have ptop := fp.top
  have qtop := fq.top
  obtain ⟨z1, z2⟩ := full_kids fp
  obtain ⟨y1, y2⟩ := full_kids fq
  have ll : t.ks.length = K1.length + 2 + K2.length := by rw [hk]; simp; omega
  obtain ⟨s, hs⟩ := get_of (l := t.es) (i := j) (by omega)
  have pk : p.ks.length ≤ 9 := by
    cases h with
    | zero => rw [z1 rfl]; simp
    | succ h => have := (z2 h rfl).1; omega
  have qk : q.ks.length ≤ 9 := by
    cases h with
    | zero => rw [y1 rfl]; simp
    | succ h => have := (y2 h rfl).1; omega
  refine c105 (tri_of M S hk) a1 a2 hs (by omega) (by omega) (by omega) (by omega) (by omega) (by omega) fun H' t' p' q' T eg ek ee egp epe epk => ?_
  have hpe' : p'.es.length = p.es.length + q.es.length + 1 := by rw [epe]; simp; omega
  obtain ⟨t2, ht2⟩ := one_end (s := s) M S hk T eg ek ee egp epk hj hs (flat_both epe (by
      cases h with
      | zero => exact .inl rfl
      | succ h => exact .inr ⟨(z2 h rfl).1, epk⟩))
    (full_of (fun e => by rw [epk, z1 e, y1 e]; rfl) (fun h' e => by
      have h3 := (z2 h' e).1
      have h4 := (y2 h' e).1
      refine ⟨by rw [epk, List.length_append]; omega, fun v hv => ?_⟩
      rw [epk] at hv
      rcases List.mem_append.1 hv with hv | hv
      · exact (z2 h' e).2 v hv
      · exact (y2 h' e).2 v hv) (by omega) (by omega)) fo hkl h8
  exact hq H' t2 ht2
end
end Go.Proofs.YtmelbipidffmpaaGreatDoor.Hw

/- Nodes: mend, all ways; first; one kid changed. -/
set_option linter.unusedVariables false
set_option linter.unusedSimpArgs false
set_option linter.unusedSectionVars false
set_option maxRecDepth 20000
namespace Go.Proofs.YtmelbipidffmpaaGreatDoor.Hw
open Go Go.Proofs
section
variable {H H' : Hp} {h : Nat} {t t1 u u' : MT} {K1 K2 : List MT} {i : Nat} {Q : Value → Hp → Prop}
theorem c85 (M : MemM H (h + 1) t) (S : SepM (h + 1) t) (hk : t.ks = K1 ++ u :: K2) (hi : K1.length = i) (hkl : t.ks.length = t.es.length + 1) (h1 : 1 ≤ t.es.length) (h8 : t.es.length ≤ 8) (fo : ∀ v, v ∈ K1 ∨ v ∈ K2 → FullM 3 8 h v) (fu : FullM 2 8 h u)
    (hq : ∀ H' t2, Same H H' h t t2 → Q (.tuple #[]) H') : HCalls Tryz.prog 85 [.pointer (some ⟨t.g, 0, none⟩), .int .i64 ((i : Nat) : Int)] H Q := by
  have ll : t.ks.length = K1.length + 1 + K2.length := by rw [hk]; simp; omega
  have hu : t.ks[i]? = some u := by rw [hk, ← hi]; simp
  have hum := List.mem_of_getElem? hu
  have N := M.1
  have utop := fu.top
  obtain ⟨u1, u2⟩ := full_kids fu
  have ew : IntKind.i64.wrap (((i : Nat) : Int) + 1) = ((i + 1 : Nat) : Int) := by rw [wrap_id (by omega) (by omega)]; omega
  refine f85.ok _ _ _ ?_
  unfold f85
  rw [ew]
  refine ⟨_, _, _, N.cl1, by omega, by omega, rd_pt (N.ksAt (by unfold huge; omega)) hu fun q o _ kp => ⟨_, by simpa using kp, onPtrI ⟨_, _, _, (M.2 u hum).node.cl0, cndI (fun h3 => ?_) fun h3 => ?_⟩⟩⟩
  · have h3 := of_decide_eq_true h3
    refine hq H t ⟨rfl, M, S, ⟨hkl, by omega, h8, fun v hv => ?_⟩, rfl, FrM.refl⟩
    rw [hk] at hv
    rcases List.mem_append.1 hv with hv | hv
    · exact fo v (.inl hv)
    · rcases List.mem_cons.1 hv with rfl | hv
      · exact full_of u1 u2 (by omega) utop.2
      · exact fo v (.inr hv)
  have h3 := of_decide_eq_false h3
  refine jn_intro (fun J => (∀ K l, K1 = K ++ [l] → 3 < l.es.length → J true) ∧ ((∀ K l, K1 = K ++ [l] → l.es.length ≤ 3) → J false)) ⟨fun K l hK hl => cndT rfl ?_, fun hL => cndF rfl ?_⟩ fun J hJ => cndI (fun h0 => ?_) fun h0 => ?_
  · -- from the left
    subst hK
    rw [List.append_assoc] at hk
    have hi' : i = K.length + 1 := by rw [← hi]; simp
    rw [hi']
    refine mend_left (K1 := K) (p := l) (q := u) (K2 := K2) M S hk rfl hkl h8 (fun v hv => fo v (by
      rcases hv with hv | hv
      · exact .inl (by simp [hv])
      · exact .inr hv)) ?_ ?_ fun H' t2 ht => ⟨rfl, hq H' t2 ht⟩
    · have fl := fo l (.inl (by simp))
      obtain ⟨l1, l2⟩ := full_kids fl
      exact full_of l1 l2 (by omega) fl.top.2
    · cases h with
      | zero => exact ⟨fu.1, fu.2.1, by omega⟩
      | succ h => exact ⟨fu.1, fu.2.1, by omega, fu.2.2.2⟩
  · refine jn_intro (fun J => (∀ r K, K2 = r :: K → 3 < r.es.length → J true) ∧ ((∀ r K, K2 = r :: K → r.es.length ≤ 3) → J false)) ⟨fun r K hK hr => cndT rfl ?_, fun hR => cndF rfl ?_⟩ fun J hJ => ⟨_, _, _, N.cl1, cndI (fun h0 => ?_) fun h0 => ?_⟩
    · subst hK
      refine mend_right (K1 := K1) (p := u) (q := r) (K2 := K) M S (by rw [hk]; rfl) hi hkl h8 (fun v hv => fo v (by
        rcases hv with hv | hv
        · exact .inl hv
        · exact .inr (by simp [hv]))) ?_ ?_ fun H' t2 ht => ⟨rfl, hq H' t2 ht⟩
      · cases h with
        | zero => exact ⟨fu.1, fu.2.1, by omega⟩
        | succ h => exact ⟨fu.1, fu.2.1, by omega, fu.2.2.2⟩
      · have fl := fo r (.inr (by simp))
        obtain ⟨l1, l2⟩ := full_kids fl
        exact full_of l1 l2 (by omega) fl.top.2
    · -- both in one
      have f23 : ∀ v, FullM 2 8 h v → v.es.length ≤ 3 → FullM 2 3 h v := fun v fv hv => by
        cases h with
        | zero => exact ⟨fv.1, fv.2.1, hv⟩
        | succ h => exact ⟨fv.1, fv.2.1, hv, fv.2.2.2⟩
      by_cases h0 : i = 0
      · subst h0
        have hK1 : K1 = [] := List.eq_nil_of_length_eq_zero hi
        subst hK1
        obtain ⟨r, K, hK⟩ : ∃ r K, K2 = r :: K := by
          cases hK2 : K2 with
          | nil => rw [hK2] at ll; simp at ll; omega
          | cons r K => exact ⟨r, K, rfl⟩
        subst hK
        have e0 : (if (0 : Int) > (IntKind.i64.wrap (((0 : Nat) : Int) - 1)) then 0 else IntKind.i64.wrap (((0 : Nat) : Int) - 1)) = ((0 : Nat) : Int) := by
          rw [wrap_id (by omega) (by omega)]; rfl
        rw [e0]
        refine mend_both (K1 := []) (p := u) (q := r) (K2 := K) M S (by rw [hk]; rfl) rfl hkl h8 (fun v hv => fo v (by
          rcases hv with hv | hv
          · exact .inl hv
          · exact .inr (by simp [hv]))) (f23 u fu (by omega)) (f23 r ((fo r (.inr (by simp))).lower (by omega)) (hR r K rfl)) fun H' t2 ht => ⟨rfl, hq H' t2 ht⟩
      · obtain ⟨K, l, hK⟩ : ∃ K l, K1 = K ++ [l] := ⟨_, _, (List.dropLast_concat_getLast (by intro e; rw [e] at hi; simp at hi; omega)).symm⟩
        have hll := hL K l hK
        subst hK
        have hi' : i = K.length + 1 := by rw [← hi]; simp
        subst hi'
        have e0 : (if (0 : Int) > (IntKind.i64.wrap (((K.length + 1 : Nat) : Int) - 1)) then 0 else IntKind.i64.wrap (((K.length + 1 : Nat) : Int) - 1)) = ((K.length : Nat) : Int) := by
          rw [wrap_id (by omega) (by omega), if_neg (by omega)]; omega
        rw [e0]
        refine mend_both (K1 := K) (p := l) (q := u) (K2 := K2) M S (by rw [hk, List.append_assoc]; rfl) rfl hkl h8 (fun v hv => fo v (by
          rcases hv with hv | hv
          · exact .inl (by simp [hv])
          · exact .inr hv)) (f23 l ((fo l (.inl (by simp))).lower (by omega)) hll) (f23 u fu (by omega)) fun H' t2 ht => ⟨rfl, hq H' t2 ht⟩
    · have h0 := of_decide_eq_true h0
      obtain ⟨r, K, hK⟩ : ∃ r K, K2 = r :: K := by
        cases hK2 : K2 with
        | nil => rw [hK2] at ll; simp at ll; omega
        | cons r K => exact ⟨r, K, rfl⟩
      have hr : t.ks[i + 1]? = some r := by rw [hk, ← hi, hK, List.getElem?_append_right (by omega), show K1.length + 1 - K1.length = 1 by omega]; rfl
      refine ⟨_, _, _, N.cl1, by omega, by omega, rd_pt (N.ksAt (by unfold huge; omega)) hr fun q o _ kp => ⟨_, by simpa using kp, onPtrI ⟨_, _, _, (M.2 r (List.mem_of_getElem? hr)).node.cl0, ?_⟩⟩⟩
      cases hb : decide (((r.es.length : Nat) : Int) > 3) with
      | true => have := of_decide_eq_true hb; exact hJ.1 r K hK (by omega)
      | false => have := of_decide_eq_false hb; exact hJ.2 fun r' K' hK' => by rw [hK] at hK'; cases hK'; omega
    · have h0 := of_decide_eq_false h0
      exact hJ.2 fun r K hK => by rw [hK] at ll; simp at ll; omega
  · have h0 := of_decide_eq_true h0
    have ew1 : IntKind.i64.wrap (((i : Nat) : Int) - 1) = ((i - 1 : Nat) : Int) := by rw [wrap_id (by omega) (by omega)]; omega
    obtain ⟨K, l, hK⟩ : ∃ K l, K1 = K ++ [l] := ⟨_, _, (List.dropLast_concat_getLast (by intro e; rw [e] at hi; simp at hi; omega)).symm⟩
    have hl : t.ks[i - 1]? = some l := by rw [hk, ← hi, hK]; simp
    rw [ew1]
    refine ⟨_, _, _, N.cl1, by omega, by omega, rd_pt (N.ksAt (by unfold huge; omega)) hl fun q o _ kp => ⟨_, by simpa using kp, onPtrI ⟨_, _, _, (M.2 l (List.mem_of_getElem? hl)).node.cl0, ?_⟩⟩⟩
    cases hb : decide (((l.es.length : Nat) : Int) > 3) with
    | true => have := of_decide_eq_true hb; exact hJ.1 K l hK (by omega)
    | false =>
      have := of_decide_eq_false hb
      exact hJ.2 fun K' l' hK' => by
        rw [hK] at hK'
        have := (List.append_inj' hK' rfl).2
        cases this; omega
  · have h0 := of_decide_eq_false h0
    exact hJ.2 fun K l hK => by rw [hK] at hi; simp at hi; omega
/-- One kid has changed, in its own blocks. -/
theorem kid_done (M : MemM H (h + 1) t) (S : SepM (h + 1) t) (hk : t.ks = K1 ++ u :: K2) (M' : MemM H' h u') (S' : SepM h u') (hg : u'.g = u.g) (Fr : FrM H H' (ownM h u) (ownM h u')) (ht1 : t1 = .mk t.g t.eA t.ec t.es t.kA t.kc (K1 ++ u' :: K2)) :
    MemM H' (h + 1) t1 ∧ SepM (h + 1) t1 ∧ FrM H H' (ownM (h + 1) t) (ownM (h + 1) t1) := by
  have hum : u ∈ t.ks := by rw [hk]; simp
  have ownu : ∀ q ∈ ownM h u, q ∈ ownM (h + 1) t := fun q hq => own_mem.2 (.inr ⟨u, hum, hq⟩)
  have lv := M.live
  have hu1 : ∀ q ∈ own1 t, q ∉ ownM h u := fun q hq h2 => (S.2.1 u hum).2 q h2 hq
  have N17 : NodeM H' t := M.1.keep fun q hq => Fr.off (hu1 q hq) (M.1.live q hq)
  have other : ∀ v, v ∈ K1 ∨ v ∈ K2 → v ∈ t.ks ∧ ∀ q ∈ ownM h v, q ∉ ownM h u := fun v hv => by
    obtain ⟨_, _, s3⟩ := S
    rw [hk, List.pairwise_append, List.pairwise_cons] at s3
    obtain ⟨p1, ⟨p4, p5⟩, p3⟩ := s3
    refine ⟨by rw [hk]; rcases hv with hv | hv <;> simp [hv], fun q hq h2 => ?_⟩
    rcases hv with hv | hv
    · exact p3 v hv u (List.mem_cons_self ..) q hq h2
    · exact p4 v hv q h2 hq
  have M17o : ∀ v, v ∈ K1 ∨ v ∈ K2 → MemM H' h v := fun v hv => (M.2 v (other v hv).1).keep fun q hq => Fr.off ((other v hv).2 q hq) ((M.2 v (other v hv).1).live q hq)
  have Nt' : NodeM H' t1 := by
    rw [ht1]
    refine N17.same ?_
    rw [hk]; exact pt_same hg
  have ho1 : own1 t1 = own1 t := by rw [ht1]; rfl
  have k1 : t1.ks = K1 ++ u' :: K2 := by rw [ht1]; rfl
  refine ⟨⟨Nt', fun v hv => ?_⟩, ?_, fun q hq => (Fr.ch q hq).imp (ownu q) id, fun q hq => ?_, Fr.al⟩
  · rw [k1] at hv
    rcases List.mem_append.1 hv with hv | hv
    · exact M17o v (.inl hv)
    · rcases List.mem_cons.1 hv with rfl | hv
      · exact M'
      · exact M17o v (.inr hv)
  · refine sep_replace (H := H) (L := [u']) S hk lv (fun v hv => ?_) (by simp) (fun v hv q hq => ?_) (by rw [k1]; simp) (by rw [ho1]; exact S.1) fun q hq => .inl (by rw [ho1] at hq; exact hq)
    · rw [List.mem_singleton] at hv; subst hv; exact S'
    · rw [List.mem_singleton] at hv; subst hv; exact Fr.nw q hq
  · rcases own_mem.1 hq with h1 | ⟨v, hv, h1⟩
    · rw [ho1] at h1; exact .inl (own_mem.2 (.inl h1))
    · rw [k1] at hv
      rcases List.mem_append.1 hv with hv | hv
      · exact .inl (own_mem.2 (.inr ⟨v, (other v (.inl hv)).1, h1⟩))
      · rcases List.mem_cons.1 hv with rfl | hv
        · exact (Fr.nw q h1).imp (ownu q) id
        · exact .inl (own_mem.2 (.inr ⟨v, (other v (.inr hv)).1, h1⟩))
end
theorem c84 : ∀ {h : Nat} {H : Hp} {t : MT} {lo : Nat} {Q : Value → Hp → Prop}, MemM H h t → FullM lo 8 h t → 1 ≤ lo → (∀ x r, flatM h t = x :: r → Q (enA x) H) → HCalls Tryz.prog 84 [.pointer (some ⟨t.g, 0, none⟩)] H Q
  | 0, H, t, lo, Q, M, F, hlo, hq => by
    refine f84.ok _ _ ?_
    unfold f84
    have N := M.1
    have htop := F.top
    obtain ⟨x, r, hx⟩ : ∃ x r, t.es = x :: r := by
      cases he : t.es with
      | nil => rw [he] at htop; simp at htop; omega
      | cons x r => exact ⟨x, r, rfl⟩
    have hx0 : t.es[0]? = some x := by rw [hx]; rfl
    exact ⟨_, _, _, N.cl1, cndF (by rw [M.2]; rfl) ⟨_, _, _, N.cl0, by omega, by omega, rd_en (N.esAt (by unfold huge; omega)) hx0 fun q o _ k1 k2 => ⟨_, _, _, by simpa using k1, _, by simpa using k2, hq x r hx⟩⟩⟩
  | h + 1, H, t, lo, Q, M, F, hlo, hq => by
    refine f84.ok _ _ ?_
    unfold f84
    have N := M.1
    have htop := F.top
    obtain ⟨f1, f2, f3, f4⟩ := F
    obtain ⟨u, K, hk⟩ : ∃ u K, t.ks = u :: K := by
      cases he : t.ks with
      | nil => rw [he] at f1; simp at f1
      | cons x r => exact ⟨x, r, rfl⟩
    have hu0 : t.ks[0]? = some u := by rw [hk]; rfl
    have hum := List.mem_of_getElem? hu0
    refine ⟨_, _, _, N.cl1, cndT (decide_eq_true (by omega)) ⟨_, _, _, N.cl1, by omega, by omega, rd_pt (N.ksAt (by unfold huge; omega)) hu0 fun q o _ kp => ⟨_, by simpa using kp, ?_⟩⟩⟩
    refine c84 (M.2 u hum) (f4 u hum) (by omega) fun x r hx => ⟨_, _, _, _, rfl, hq x (r ++ restE (K.map (flatM h)) t.es) ?_⟩
    show inter (t.ks.map (flatM h)) t.es = _
    rw [hk, List.map_cons, inter_head, hx]; rfl
end Go.Proofs.YtmelbipidffmpaaGreatDoor.Hw

/- Nodes: remove. -/
set_option linter.unusedVariables false
set_option linter.unusedSimpArgs false
set_option linter.unusedSectionVars false
set_option maxRecDepth 20000
namespace Go.Proofs.YtmelbipidffmpaaGreatDoor.Hw
open Go Go.Proofs
/-- An entry is out. -/
def OutE (l : List EnM) (e : EnM) (l' : List EnM) : Prop := ∃ a x b, l = a ++ x :: b ∧ l' = a ++ b ∧ ordE x e = 0
theorem OutE.wrap {l l' z r : List EnM} {e : EnM} (h : OutE l e l') : OutE (z ++ l ++ r) e (z ++ l' ++ r) := by
  obtain ⟨a, x, b, rfl, rfl, h⟩ := h
  exact ⟨z ++ a, x, b ++ r, by simp, by simp, h⟩
theorem OutE.sub {l l' : List EnM} {e : EnM} (h : OutE l e l') : l'.Sublist l := by
  obtain ⟨a, x, b, rfl, rfl, h⟩ := h
  exact List.Sublist.append (List.Sublist.refl _) (List.sublist_cons_self _ _)
/-- The first one out. -/
theorem OutE.first {x : EnM} {r l' : List EnM} (hs : SrtE (x :: r)) (h : OutE (x :: r) x l') : l' = r := by
  obtain ⟨a, y, b, h1, rfl, h⟩ := h
  cases a with
  | nil => simp at h1; exact h1.2.symm
  | cons z a =>
    exfalso
    simp only [List.cons_append, List.cons.injEq] at h1
    unfold SrtE at hs
    rw [List.pairwise_cons] at hs
    have h2 := hs.1 y (by rw [h1.2]; simp)
    have := ordE_ok.anti x y
    omega
theorem zip_snoc {α : Type} {k : List α} {y : α} : ∀ {K : List (List α)} {E : List α}, K.length = E.length → zipE (K ++ [k]) (E ++ [y]) = zipE K E ++ (k ++ [y])
  | [], [], _ => by simp [zipE]
  | [], _ :: _, h => by simp at h
  | _ :: _, [], h => by simp at h
  | a :: K, e :: E, h => by
    show a ++ e :: zipE (K ++ [k]) (E ++ [y]) = (a ++ e :: zipE K E) ++ (k ++ [y])
    rw [zip_snoc (by simpa using h)]
    simp
theorem has_of {l : List EnM} {e : EnM} (hs : SrtE l) (h : ∃ x ∈ l, ordE x e = 0) : hasE l e = true := by
  cases hc : hasE l e with
  | true => rfl
  | false =>
    obtain ⟨x, hx, h0⟩ := h
    exact absurd h0 (has_false hs hc x hx)
theorem has_get {l : List EnM} {e : EnM} (h : hasE l e = true) : ∃ y, l[cntE l e]? = some y ∧ ordE y e = 0 := by
  unfold hasE at h
  cases hg : l[cntE l e]? with
  | none => rw [hg] at h; cases h
  | some y => rw [hg] at h; exact ⟨y, rfl, by simpa using h⟩
theorem mid_sub {α : Type} {a b c : List α} : b.Sublist (a ++ b ++ c) := (List.sublist_append_right a b).trans (List.sublist_append_left _ c)
section
variable {h : Nat} {t u : MT}
/-- Where an entry goes down that is not in the node itself. -/
theorem way_down2 {e : EnM} {K1 K2 : List MT} (hk : t.ks = K1 ++ u :: K2) {i : Nat} (hi : i = cntE t.es e) (hl : K1.length = i) (hl2 : t.ks.length = t.es.length + 1) (hs : SrtE (flatM (h + 1) t)) (hes : SrtE t.es) (hno : ∀ x ∈ t.es, ordE x e ≠ 0) :
    (∀ x ∈ zipE (K1.map (flatM h)) (t.es.take i), ordE x e < 0) ∧ ∀ x ∈ restE (K2.map (flatM h)) (t.es.drop i), ordE e x < 0 := by
  have hle := cnt_le (l := t.es) (e := e)
  have hf := flat_split (h := h) hk (E1 := t.es.take i) (E2 := t.es.drop i) (List.take_append_drop _ _).symm (by rw [List.length_take]; omega)
  rw [hf] at hs
  unfold SrtE at hs
  rw [List.append_assoc, List.pairwise_append, List.pairwise_append] at hs
  obtain ⟨q1, ⟨q2, q3, q4⟩, q5⟩ := hs
  refine ⟨fun x hx => ?_, fun x hx => ?_⟩
  · cases hg : (t.es.take i).getLast? with
    | none =>
      have : t.es.take i = [] := List.getLast?_eq_none_iff.1 hg
      rw [this] at hx
      cases hK : K1.map (flatM h) <;> rw [hK] at hx <;> simp [zipE] at hx
    | some y =>
      obtain ⟨Z, hZ⟩ := zip_last (K := K1.map (flatM h)) (E := t.es.take i) (by rw [List.length_map, List.length_take]; omega) hg
      have hy : ordE y e < 0 := by
        have hmem : y ∈ t.es.take i := List.mem_of_getLast? hg
        obtain ⟨j, hj⟩ := List.mem_iff_getElem?.1 hmem
        have hlt := (List.getElem?_eq_some_iff.1 hj).1
        rw [List.length_take] at hlt
        rw [List.getElem?_take_of_lt (by omega)] at hj
        exact cnt_lt (by omega) hj
      rw [hZ] at q1 hx
      rw [List.pairwise_append] at q1
      rcases List.mem_append.1 hx with hx | hx
      · exact ordE_ok.lt_of (q1.2.2 x hx y (by simp)) (by omega)
      · rw [List.mem_singleton] at hx; rw [hx]; exact hy
  · cases hd : t.es.drop i with
    | nil =>
      rw [hd] at hx
      have hlen : t.es.length ≤ i := List.drop_eq_nil_iff.1 hd
      have hkl := hl2
      rw [hk, List.length_append, List.length_cons] at hkl
      have : K2 = [] := List.eq_nil_of_length_eq_zero (by omega)
      rw [this] at hx
      simp [restE, inter] at hx
    | cons y E =>
      have hyi : t.es[i]? = some y := by
        have := congrArg (fun l => l[0]?) hd
        simpa using this
      rw [hd] at hx q3
      have hx : x ∈ y :: inter (K2.map (flatM h)) E := hx
      have q3 : (y :: inter (K2.map (flatM h)) E).Pairwise fun a b => ordE a b < 0 := q3
      have hy : ordE e y < 0 := ord_flip (cnt_ge hes (by omega) hyi) (hno y (List.mem_of_getElem? hyi))
      rcases List.mem_cons.1 hx with rfl | hx
      · exact hy
      · rw [List.pairwise_cons] at q3
        exact ordE_ok.lt_of hy (by have := q3.1 x hx; omega)
end
section
variable {X : Hp}
theorem c58 : ∀ {h : Nat} {H : Hp} {t : MT} {e : EnM} {lo : Nat} {Q : Value → Hp → Prop}, MemM H h t → SepM h t → FullM lo 8 h t → (h = 0 ∨ 1 ≤ lo) → Ext X H → (∀ x ∈ flatM h t, KeyAt X x) → KeyAt X e → (∀ q ∈ ownM h t, X q = none) → SrtE (flatM h t) → (∃ x ∈ flatM h t, ordE x e = 0) →
    (∀ H' t', MemM H' h t' → SepM h t' → FullM (lo - 1) 8 h t' → t'.g = t.g → OutE (flatM h t) e (flatM h t') → FrM H H' (ownM h t) (ownM h t') → Q (.tuple #[]) H') →
    HCalls Tryz.prog 58 [.pointer (some ⟨t.g, 0, none⟩), enA e] H Q
  | 0, H, t, e, lo, Q, M, S, F, hlo, hX, hkey, hke, hid, hsrt, hex, hq => by
    have hsrt : SrtE t.es := hsrt
    have hhas := has_of hsrt hex
    have ftop := F.top
    obtain ⟨y, hy, h0⟩ := has_get hhas
    have hyl := (List.getElem?_eq_some_iff.1 hy).1
    refine c58L M.1 M.2 S (fun x hx => (hkey x hx).ext hX) (hke.ext hX) hsrt (by omega) hhas fun H' N' Fr => hq H' _ ⟨N', M.2⟩ S ⟨M.2, ?_, ?_⟩ rfl ⟨t.es.take (cntE t.es e), y, t.es.drop (cntE t.es e + 1), kids_split hy, rfl, h0⟩ Fr
    · show lo - 1 ≤ (t.es.take _ ++ t.es.drop _).length
      simp; omega
    · show (t.es.take _ ++ t.es.drop _).length ≤ 8
      simp; omega
  | h + 1, H, t, e, lo, Q, M, S, F, hlo, hX, hkey, hke, hid, hsrt, hex, hq => by
    refine f58.ok _ _ _ _ _ _ ?_
    unfold f58
    have N := M.1
    have hle := cnt_le (l := t.es) (e := e)
    obtain ⟨f1, f2, f3, f4⟩ := id F
    have hsub := es_sub F
    have hes : SrtE t.es := hsrt.sublist hsub
    have hl1 : 1 ≤ lo := hlo.resolve_left (by omega)
    refine c78 N (fun x hx => (hkey x (hsub.subset hx)).ext hX) (hke.ext hX) hes (by unfold big; omega) fun H2 x2 => ⟨_, _, rfl, ?_⟩
    obtain ⟨i, hi⟩ : ∃ i, i = cntE t.es e := ⟨_, rfl⟩
    rw [← hi] at hle ⊢
    have ew : IntKind.i64.wrap (((i : Nat) : Int) + 1) = ((i + 1 : Nat) : Int) := by rw [wrap_id (by omega) (by omega)]; omega
    rw [ew]
    have N2 := N.ext x2
    have M2 : MemM H2 (h + 1) t := M.ext x2
    have hX2 := hX.trans x2
    refine jn_intro (fun J => J false) (cndF rfl ?_) fun J hJ => ⟨_, _, _, N2.cl1, cndF (by simp; intro e0; rw [e0] at f1; simp at f1) hJ⟩
    have fin : ∀ (H9 : Hp) (t9 t2 : MT), t2.g = t.g → t2.es.length = t.es.length → FrM H H9 (ownM (h + 1) t) (ownM (h + 1) t2) → OutE (flatM (h + 1) t) e (flatM (h + 1) t2) → ∀ H10, Same H9 H10 h t2 t9 → Q (.tuple #[]) H10 := fun H9 t9 t2 hg he Fr hO H10 hS =>
      hq H10 t9 hS.mem hS.sep (hS.full.lower (by omega)) (hS.g.trans hg) (by rw [hS.flat]; exact hO) (Fr.trans hS.fr)
    refine cndI (fun hhas => ?_) fun hhas => ?_
    · -- it is here: the next one takes its place
      obtain ⟨y, hy, h0⟩ := has_get hhas
      rw [← hi] at hy
      have hyl := (List.getElem?_eq_some_iff.1 hy).1
      obtain ⟨u, hu⟩ := get_of (l := t.ks) (i := i + 1) (by omega)
      have hum := List.mem_of_getElem? hu
      have hk : t.ks = t.ks.take (i + 1) ++ u :: t.ks.drop (i + 1 + 1) := kids_split hu
      obtain ⟨K2, hK2⟩ : ∃ K2, K2 = t.ks.drop (i + 1 + 1) := ⟨_, rfl⟩
      obtain ⟨w, hw⟩ := get_of (l := t.ks) (i := i) (by omega)
      have hK1 : t.ks.take (i + 1) = t.ks.take i ++ [w] := take_snoc hw
      obtain ⟨K0, hK0⟩ : ∃ K0, K0 = t.ks.take i := ⟨_, rfl⟩
      rw [hK1, ← hK0, ← hK2] at hk
      have l0 : K0.length = i := by rw [hK0, List.length_take]; omega
      have es1 : t.es = (t.es.take i ++ [y]) ++ t.es.drop (i + 1) := by
        conv => lhs; rw [kids_split hy]
        simp
      have lt1 : (t.es.take i).length = i := by rw [List.length_take]; omega
      have hfl := flat_split (h := h) hk (E1 := t.es.take i ++ [y]) (E2 := t.es.drop (i + 1)) es1 (by simp; omega)
      rw [List.map_append, List.map_cons, List.map_nil, zip_snoc (by rw [List.length_map]; omega)] at hfl
      have inu : ∀ x ∈ flatM h u, x ∈ flatM (h + 1) t := fun x hx => by rw [hfl]; simp [hx]
      have hsu : SrtE (flatM h u) := by
        have hsrt := hsrt
        rw [hfl] at hsrt
        exact hsrt.sublist mid_sub
      refine ⟨_, _, _, N2.cl1, by omega, by omega, rd_pt (N2.ksAt (by unfold huge; omega)) hu fun q o _ kp => ⟨_, by simpa using kp, ?_⟩⟩
      refine c84 (M2.2 u hum) (f4 u hum) (by omega) fun x r hxr => ⟨_, _, _, _, rfl, _, _, _, N2.cl0, by omega, by omega, ?_⟩
      simp only [Int.toNat_natCast]
      have hxm : x ∈ flatM h u := by rw [hxr]; simp
      refine writeE (x := x) N2 S.1 hyl fun H22 N22 nd22 F22 => ?_
      obtain ⟨t1, ht1⟩ : ∃ t1 : MT, t1 = .mk t.g t.eA t.ec (t.es.set i x) t.kA t.kc t.ks := ⟨_, rfl⟩
      rw [← ht1] at N22 F22
      have o1 : own1 t1 = own1 t := by rw [ht1]; rfl
      have k1 : t1.ks = t.ks := by rw [ht1]; rfl
      rw [o1] at F22
      have M22 : MemM H22 (h + 1) t1 := ⟨N22, fun v hv => by
        rw [k1] at hv
        exact (M2.2 v hv).keep fun q hq => F22.off ((S.2.1 v hv).2 q hq) ((M2.2 v hv).live q hq)⟩
      have S22 : SepM (h + 1) t1 := ⟨by rw [o1]; exact S.1, fun v hv => by rw [k1] at hv; rw [o1]; exact S.2.1 v hv, by rw [k1]; exact S.2.2⟩
      have own1' : ∀ q, q ∈ ownM (h + 1) t1 ↔ q ∈ ownM (h + 1) t := fun q => by rw [own_mem, own_mem, o1, k1]
      have Fr1 : FrM H H22 (ownM (h + 1) t) (ownM (h + 1) t1) := (FrM.ofExt x2).trans ⟨fun q hq => (F22.ch q hq).imp (fun h => own_mem.2 (.inl h)) id, fun q hq => .inl ((own1' q).1 hq), F22.al⟩
      have hX22 : Ext X H22 := Fr1.ext hX hid
      have c22 : cl H22 t.g (0 + 1) = some (.slice t.kA t.ks.length t.kc) := by have := N22.cl1; rw [ht1] at this; exact this
      refine ⟨_, _, _, c22, by omega, by omega, ?_⟩
      have ks22 := N22.ksAt (by rw [k1]; unfold huge; omega)
      rw [k1] at ks22
      have kA1 : t1.kA = t.kA := by rw [ht1]; rfl
      rw [kA1] at ks22
      refine rd_pt ks22 hu fun q o _ kp => ⟨_, by simpa using kp, ?_⟩
      have hum1 : u ∈ t1.ks := by rw [k1]; exact hum
      have hid1 : ∀ q ∈ ownM h u, X q = none := fun q hq => hid q (own_mem.2 (.inr ⟨u, hum, hq⟩))
      refine c58 (M22.2 u hum1) (S22.2.1 u hum1).1 (f4 u hum) (.inr (by omega)) hX22 (fun z hz => hkey z (inu z hz)) (hkey x (inu x hxm)) hid1 hsu ⟨x, hxm, ordE_ok.self x⟩ fun H27 u' M27 S27 F27 hg27 O27 Fr27 => ⟨rfl, ?_⟩
      have hr : flatM h u' = r := by
        rw [hxr] at O27 hsu
        exact OutE.first hsu O27
      obtain ⟨t2, ht2⟩ : ∃ t2 : MT, t2 = .mk t1.g t1.eA t1.ec t1.es t1.kA t1.kc ((K0 ++ [w]) ++ u' :: K2) := ⟨_, rfl⟩
      have hk1 : t1.ks = (K0 ++ [w]) ++ u :: K2 := by rw [k1]; exact hk
      obtain ⟨d1, d2, d3⟩ := kid_done M22 S22 hk1 M27 S27 hg27 Fr27 ht2
      have g2 : t2.g = t.g := by rw [ht2, ht1]; rfl
      have e2 : t2.es = t.es.set i x := by rw [ht2, ht1]; rfl
      have e2l : t2.es.length = t.es.length := by rw [e2, List.length_set]
      have k2 : t2.ks = (K0 ++ [w]) ++ u' :: K2 := by rw [ht2]; rfl
      have es2 : t2.es = (t.es.take i ++ [x]) ++ t.es.drop (i + 1) := by
        rw [e2, List.set_eq_take_append_cons_drop, if_pos hyl]; simp
      have hfl2 := flat_split (h := h) k2 (E1 := t.es.take i ++ [x]) (E2 := t.es.drop (i + 1)) es2 (by simp; omega)
      rw [List.map_append, List.map_cons, List.map_nil, zip_snoc (by rw [List.length_map]; omega), hr] at hfl2
      have hOut : OutE (flatM (h + 1) t) e (flatM (h + 1) t2) := by
        rw [hfl, hfl2, hxr]
        exact ⟨zipE (K0.map (flatM h)) (t.es.take i) ++ flatM h w, y, x :: r ++ restE (K2.map (flatM h)) (t.es.drop (i + 1)), by simp, by simp, h0⟩
      rw [← g2]
      refine c85 (K1 := K0 ++ [w]) (u := u') (K2 := K2) d1 d2 k2 (by simp; omega) ?_ (by omega) (by omega) (fun v hv => f4 v ?_) F27 fun H29 t9 hS => ⟨rfl, fin H27 t9 t2 g2 e2l (Fr1.trans d3) hOut H29 hS⟩
      · have := f1
        rw [hk] at this
        rw [k2, e2l]
        simp at this ⊢
        omega
      · rw [hk]
        rcases hv with hv | hv
        · exact List.mem_append_left _ hv
        · exact List.mem_append_right _ (List.mem_cons_of_mem _ hv)
    · -- it is below
      have hno := has_false hes hhas
      obtain ⟨u, hu⟩ := get_of (l := t.ks) (i := i) (by omega)
      have hum := List.mem_of_getElem? hu
      have hk : t.ks = t.ks.take i ++ u :: t.ks.drop (i + 1) := kids_split hu
      obtain ⟨K1, hK1⟩ : ∃ K1, K1 = t.ks.take i := ⟨_, rfl⟩
      obtain ⟨K2, hK2⟩ : ∃ K2, K2 = t.ks.drop (i + 1) := ⟨_, rfl⟩
      rw [← hK1, ← hK2] at hk
      have l1 : K1.length = i := by rw [hK1, List.length_take]; omega
      have hfl := flat_split (h := h) hk (E1 := t.es.take i) (E2 := t.es.drop i) (List.take_append_drop _ _).symm (by rw [List.length_take]; omega)
      obtain ⟨wz, wr⟩ := way_down2 hk hi l1 f1 hsrt hes hno
      have hsu : SrtE (flatM h u) := by
        have hsrt := hsrt
        rw [hfl] at hsrt
        exact hsrt.sublist mid_sub
      have inu : ∀ x ∈ flatM h u, x ∈ flatM (h + 1) t := fun x hx => by rw [hfl]; simp [hx]
      have hexu : ∃ x ∈ flatM h u, ordE x e = 0 := by
        obtain ⟨x, hx, hz⟩ := hex
        rw [hfl] at hx
        rcases List.mem_append.1 hx with hx | hx
        · rcases List.mem_append.1 hx with hx | hx
          · have := wz x hx; omega
          · exact ⟨x, hx, hz⟩
        · have := wr x hx
          have := ordE_ok.anti x e
          omega
      refine ⟨_, _, _, N2.cl1, cndT (decide_eq_true (by omega)) ⟨_, _, _, N2.cl1, by omega, by omega, rd_pt (N2.ksAt (by unfold huge; omega)) hu fun q o _ kp => ⟨_, by simpa using kp, ?_⟩⟩⟩
      have hid1 : ∀ q ∈ ownM h u, X q = none := fun q hq => hid q (own_mem.2 (.inr ⟨u, hum, hq⟩))
      refine c58 (M2.2 u hum) (S.2.1 u hum).1 (f4 u hum) (.inr (by omega)) hX2 (fun z hz => hkey z (inu z hz)) hke hid1 hsu hexu fun H27 u' M27 S27 F27 hg27 O27 Fr27 => ⟨rfl, ?_⟩
      obtain ⟨t2, ht2⟩ : ∃ t2 : MT, t2 = .mk t.g t.eA t.ec t.es t.kA t.kc (K1 ++ u' :: K2) := ⟨_, rfl⟩
      obtain ⟨d1, d2, d3⟩ := kid_done M2 S hk M27 S27 hg27 Fr27 ht2
      have g2 : t2.g = t.g := by rw [ht2]; rfl
      have e2 : t2.es = t.es := by rw [ht2]; rfl
      have k2 : t2.ks = K1 ++ u' :: K2 := by rw [ht2]; rfl
      have hfl2 := flat_split (h := h) k2 (E1 := t.es.take i) (E2 := t.es.drop i) (by rw [e2]; exact (List.take_append_drop _ _).symm) (by rw [List.length_take]; omega)
      have hOut : OutE (flatM (h + 1) t) e (flatM (h + 1) t2) := by
        rw [hfl, hfl2]
        exact O27.wrap
      rw [← g2]
      refine c85 (K1 := K1) (u := u') (K2 := K2) d1 d2 k2 l1 ?_ (by rw [e2]; omega) (by rw [e2]; omega) (fun v hv => f4 v ?_) F27 fun H29 t9 hS => ⟨rfl, fin H27 t9 t2 g2 (by rw [e2]) ((FrM.ofExt x2).trans d3) hOut H29 hS⟩
      · have := f1
        rw [hk] at this
        rw [k2, e2]
        simp at this ⊢
        omega
      · rw [hk]
        rcases hv with hv | hv
        · exact List.mem_append_left _ hv
        · exact List.mem_append_right _ (List.mem_cons_of_mem _ hv)
end
end Go.Proofs.YtmelbipidffmpaaGreatDoor.Hw

/- Delete, of trees of one block. -/
set_option linter.unusedVariables false
set_option linter.unusedSimpArgs false
set_option linter.unusedSectionVars false
set_option maxRecDepth 20000
namespace Go.Proofs.YtmelbipidffmpaaGreatDoor.Hw
open Go Go.Proofs
theorem fullB_three : ∀ {h : Nat} {t : BT}, FullB false h t → 3 ≤ (flatB h t).length
  | 0, t, F => by
    rcases F.2.2 with h | h
    · cases h
    · exact h
  | h + 1, t, ⟨f1, f2, f3, f4, f5⟩ => by
    have h1 := (inter_sub (K := t.ks.map (flatB h)) (E := t.es) (by rw [List.length_map]; exact f1)).length_le
    rcases f3 with h | h
    · cases h
    · exact Nat.le_trans h h1
theorem low_tree {h : Nat} {t : BT} (F : FullB true h t) (hl : (flatB h t).length ≤ 6) : h = 0 := by
  cases h with
  | zero => rfl
  | succ h =>
    exfalso
    obtain ⟨f1, f2, f3, f4, f5⟩ := F
    have hl' : (flatB (h + 1) t).length = ((t.ks.map (flatB h)).map List.length).sum + t.es.length := len_inter (by rw [List.length_map]; exact f1)
    match hk : t.ks with
    | [] => rw [hk] at f1; simp at f1
    | [u] => rw [hk] at f1; have f1 : 1 = t.es.length + 1 := f1; omega
    | u :: v :: r =>
      have a1 := fullB_three (f5 u (by rw [hk]; simp))
      have a2 := fullB_three (f5 v (by rw [hk]; simp))
      rw [hk] at hl'
      simp only [List.map_cons, List.sum_cons] at hl'
      omega
section
variable {H : Hp} {A : Option Addr} {n c : Nat} {root cols : Int} {bl : List NdM} {Q : Value → Hp → Prop} {e : EnM} {S : Sv}
end
end Go.Proofs.YtmelbipidffmpaaGreatDoor.Hw

/- Delete. -/
set_option linter.unusedVariables false
set_option linter.unusedSimpArgs false
set_option linter.unusedSectionVars false
set_option maxRecDepth 20000
namespace Go.Proofs.YtmelbipidffmpaaGreatDoor.Hw
open Go Go.Proofs
theorem cnt_say {e : EnM} : ∀ {l l' : List EnM}, l.map sayE = l'.map sayE → cntE l e = cntE l' e
  | [], [], _ => rfl
  | [], _ :: _, h => by simp at h
  | _ :: _, [], h => by simp at h
  | x :: r, y :: r', h => by
    simp only [List.map_cons, List.cons.injEq] at h
    have ho := ord_say h.1 (rfl : sayE e = sayE e)
    have := cnt_say (e := e) h.2
    unfold cntE at this ⊢
    rw [List.takeWhile_cons, List.takeWhile_cons, ho]
    split
    · simp [this]
    · rfl
/-- In a list in order one place alone is an entry's. -/
theorem OutE.is {l l' : List EnM} {e : EnM} (hs : SrtE l) (h : OutE l e l') : l' = l.take (cntE l e) ++ l.drop (cntE l e + 1) := by
  obtain ⟨a, x, b, rfl, rfl, h0⟩ := h
  have hc : cntE (a ++ x :: b) e = a.length := take_is (p := fun z => decide (ordE z e < 0)) (fun i z hi hz => by
    have hz' : a[i]? = some z := by rwa [List.getElem?_append_left hi] at hz
    unfold SrtE at hs
    rw [List.pairwise_append] at hs
    have h1 := hs.2.2 z (List.mem_of_getElem? hz') x (by simp)
    exact decide_eq_true (ordE_ok.lt_of h1 (by omega))) (fun z hz => by
    have : x = z := by simpa using hz
    subst this
    exact decide_eq_false (by omega)) (by simp)
  rw [hc, List.take_left' rfl, ← List.drop_drop, List.drop_left' rfl]; rfl
/-- What Delete answers, in a number. -/
def delCode (t : Option Sv) (cols : Int) (e : EnM) : Int := match t with
  | none => 2
  | some S => if entB cols e = true then (if hasE S.out e = true then 0 else 4) else 2
section
variable {H : Hp} {A : Option Addr} {n c : Nat} {root cols : Int} {bl : List NdM} {Q : Value → Hp → Prop} {e : EnM}
theorem c28 (N : NullAt H) (hT : TrAt H A n bl) (hF : Fewish bl) (hK : KeyAt H e) (hlim : ∀ S, treeV bl root cols = some S → S.out.length ≤ 5000)
    (h0 : delCode (treeV bl root cols) cols e ≠ 0 → ∀ H', Ext H H' → Q (.tuple #[.agg #[.slice none 0 0, .int .i64 0, .int .i64 0], .int .i64 (delCode (treeV bl root cols) cols e)]) H')
    (h1 : ∀ S, treeV bl root cols = some S → delCode (treeV bl root cols) cols e = 0 → ∀ H' A' c' bl' l' dep, Ext H H' → OutT H' A' bl' cols l' dep → l'.map sayE = (S.out.take (cntE S.out e) ++ S.out.drop (cntE S.out e + 1)).map sayE → Q (.tuple #[.agg #[.slice A' bl'.length c', .int .i64 0, .int .i64 cols], .int .i64 0]) H') :
    HCalls Tryz.prog 28 [.agg #[.slice A n c, .int .i64 root, .int .i64 cols], enA e] H Q := by
  refine f28.ok _ _ _ _ _ _ _ _ _ ?_
  unfold f28
  refine c36 N hT hF (fun h H2 hx => ⟨_, _, rfl, ?_⟩) fun S h hl hk g gs oA oc H2 W => ⟨_, _, rfl, ?_⟩
  · refine jn_intro (fun J => ∀ H', Ext H H' → J true H') (fun H9 x9 => cndT rfl ?_) fun J hJ => cndT rfl (hJ H2 hx)
    have : delCode (treeV bl root cols) cols e = 2 := by rw [h]; rfl
    rw [this] at h0
    exact h0 (by decide) H9 x9
  have hob : S.out.length < huge := by unfold huge; omega
  obtain ⟨hs, hgd, hh, bt, a1, a2, a3, a4, a5⟩ := tree_of h
  have hent := good_ent hgd
  have hsrt := good_srt hgd
  have hW := W.ext
  have hcode : delCode (treeV bl root cols) cols e = if entB cols e = true then (if hasE S.out e = true then 0 else 4) else 2 := by rw [h]; rfl
  refine jn_intro (fun J => (entB cols e = false → J true H2) ∧ (entB cols e = true → J false H2)) ⟨fun hb => cndT rfl ?_, fun hb => cndF rfl ?_⟩ fun J hJ => cndF rfl (c49 (N.ext hW) (hK.ext hW) ⟨_, rfl, ?_⟩)
  · rw [hcode, if_neg (by rw [hb]; decide)] at h0
    exact h0 (by decide) H2 hW
  · rw [hb] at hcode
    simp only [if_true] at hcode
    refine ⟨_, _, _, W.cl 5, c50 (outAt W hob) (fun x hx => (hk x hx).ext hW) (hK.ext hW) hsrt (by unfold big; omega) fun H14 x14 => ⟨_, _, rfl, cndI (fun hhas => ?_) fun hhas => ?_⟩⟩
    · have hhas : hasE S.out e = false := by simpa using hhas
      rw [hcode, if_neg (by rw [hhas]; decide)] at h0
      exact h0 (by decide) H14 (hW.trans x14)
    have hhas : hasE S.out e = true := by simpa using hhas
    have W14 := W.more x14
    rw [if_pos hhas] at hcode
    have hlenS : ∀ x ∈ S.out, x.key.length < big := fun x hx => by
      have := (ent_len (hent x hx)).1
      have := hs.2.1
      unfold big; omega
    refine c52 (r := true) (bt := bt) hT W14.ext a1 a2 (fun x hx => hlenS x (by rw [a3]; exact hx)) fun H20 t x20 M Sp hid hsay Fu kt => ⟨_, rfl, ?_⟩
    rw [← a3] at hsay
    have liveT := M.live
    have kX : ∀ x ∈ flatM hh t, KeyAt (hideH (ownM hh t) H20) x := fun x hx => (kt x hx).1.hide (kt x hx).2.2
    have hX14 := W14.ext.trans x20
    have keX : KeyAt (hideH (ownM hh t) H20) e := (hK.ext hX14).hide fun h0 q hq h1 => by
      have h2 := W14.ext.none (hid q h1)
      exact hK.live h0 hq h2
    have srtT : SrtE (flatM hh t) := srt_say hsay.symm hsrt
    have exT : ∃ x ∈ flatM hh t, ordE x e = 0 := by
      obtain ⟨x, hx, hz⟩ := has_true hhas
      obtain ⟨y, hy, e1⟩ := say_mem hsay.symm hx
      exact ⟨y, hy, by rw [ord_say e1 rfl]; exact hz⟩
    have hlo : hh = 0 ∨ 1 ≤ bt.es.length := by
      cases hh with
      | zero => exact .inl rfl
      | succ hh => exact .inr a2.2.2.2.1
    refine c58 M Sp Fu hlo hide_ext kX keX (fun q hq => hide_in hq) srtT exT fun H21 t' M21 S21 F21 hg21 O21 Fr21 => ⟨rfl, ?_⟩
    have hX21 : Ext (hideH (ownM hh t) H20) H21 := Fr21.ext hide_ext fun q hq => hide_in hq
    have hsub := O21.sub
    have hk21 : ∀ x ∈ flatM hh t', KeyAt H21 x := fun x hx => (kX x (hsub.subset hx)).ext hX21
    have ent21 : ∀ x ∈ flatM hh t', entB cols x = true := fun x hx => by
      obtain ⟨y, hy, e1⟩ := say_mem hsay (hsub.subset hx)
      rw [← ent_say e1]; exact hent y hy
    have srt21 := srtT.sublist hsub
    have hlenT : (flatM hh t).length = S.out.length := by have := congrArg List.length hsay; simpa using this
    have hout : (flatM hh t').map sayE = (S.out.take (cntE S.out e) ++ S.out.drop (cntE S.out e + 1)).map sayE := by
      rw [O21.is srtT, cnt_say hsay, List.map_append, List.map_append, List.map_take, List.map_drop, hsay, ← List.map_take, ← List.map_drop]
    have hH : Ext H H21 := by
      have : Ext H (hideH (ownM hh t) H20) := fun q o hq => by
        have h1 := hX14 q o hq
        show (if q ∈ ownM hh t then none else H20 q) = _
        rw [if_neg, h1]
        intro hm
        have := W14.ext.none (hid q hm)
        rw [this] at hq; cases hq
      exact this.trans hX21
    have fin : ∀ (h' : Nat) (t2 : MT) (lo' : Nat), MemM H21 h' t2 → FullM lo' 8 h' t2 → (h' = 0 ∨ 1 ≤ lo') → flatM h' t2 = flatM hh t' → HCalls Tryz.prog 55 [.pointer (some ⟨t2.g, 0, none⟩), .int .i64 cols] H21 fun v34 H35 => ∃ (A36 : Option Addr) (n36 c36 : Nat), ∃ x37 : Int, ∃ x38 : Int, v34 = .agg #[.slice A36 n36 c36, .int .i64 x37, .int .i64 x38] ∧ Q (.tuple #[.agg #[.slice A36 n36 c36, .int .i64 x37, .int .i64 x38], .int .i64 0]) H35 := fun h' t2 lo' M2 F2 l2 e2 => by
      refine c55 (lo := lo') M2 F2 l2 ⟨hs.1, hs.2.1⟩ ?_ (by rw [e2]; exact srt21) (by rw [e2]; exact ent21) (by rw [e2]; exact hk21) fun H5 A5 c5 bl5 x5 O5 => ⟨_, _, _, _, _, rfl, ?_⟩
      · have h1 := size_le (F2.widen (hi' := 1000) (by omega))
        rw [e2] at h1
        have h2 := hsub.length_le
        have h3 := hlim S h
        omega
      · rw [e2] at O5
        exact h1 S h hcode H5 A5 c5 bl5 _ _ (hH.trans x5) O5 hout
    refine jn_intro (fun J => ∀ (h' : Nat) (t2 : MT) (lo' : Nat), MemM H21 h' t2 → FullM lo' 8 h' t2 → (h' = 0 ∨ 1 ≤ lo') → flatM h' t2 = flatM hh t' → J (some ⟨t2.g, 0, none⟩)) fin fun J hJ => ?_
    have N21 := M21.node
    have c0 := N21.cl0
    have c1 := N21.cl1
    rw [hg21] at c0 c1
    cases hh with
    | zero =>
      have hk0 : t'.ks = [] := M21.2
      refine jn_intro (fun J27 => J27 false) (cndF rfl ?_) fun J27 hJ27 => ⟨_, _, _, c0, cndI (fun h => ⟨_, _, _, c1, ?_⟩) fun h => hJ27⟩
      · rw [← hg21]
        exact hJ 0 t' _ M21 F21 (.inl rfl) rfl
      · rw [show decide (((t'.ks.length : Nat) : Int) > 0) = false by rw [hk0]; rfl]; exact hJ27
    | succ hh =>
      obtain ⟨g1, g2, g3, g4⟩ := F21
      refine jn_intro (fun J27 => (1 ≤ t'.es.length → J27 false) ∧ (t'.es.length = 0 → J27 true)) ⟨fun he => cndF rfl ?_, fun he => cndT rfl ?_⟩ fun J27 hJ27 => ⟨_, _, _, c0, cndI (fun h => ⟨_, _, _, c1, ?_⟩) fun h => hJ27.1 ?_⟩
      · rw [← hg21]
        exact hJ (hh + 1) t' 1 M21 ⟨g1, he, g3, g4⟩ (.inr (Nat.le_refl _)) rfl
      · have hkl : t'.ks.length = 1 := by omega
        obtain ⟨u, hu⟩ := get_of (l := t'.ks) (i := 0) (by omega)
        have hum := List.mem_of_getElem? hu
        have hk1 : t'.ks = [u] := by
          cases hc : t'.ks with
          | nil => rw [hc] at hkl; simp at hkl
          | cons v r =>
            rw [hc] at hkl hu
            have hr : r = [] := List.eq_nil_of_length_eq_zero (by simpa using hkl)
            have hv : v = u := by simpa using hu
            rw [hr, hv]
        have he0 : t'.es = [] := List.eq_nil_of_length_eq_zero he
        refine ⟨_, _, _, c1, by omega, by omega, rd_pt (N21.ksAt (by unfold huge; omega)) hu fun q o _ kp => ⟨_, by simpa using kp, ?_⟩⟩
        refine hJ hh u 3 (M21.2 u hum) (g4 u hum) (.inr (by omega)) ?_
        show flatM hh u = inter (t'.ks.map (flatM hh)) t'.es
        rw [hk1, he0]; simp [inter]
      · have h : t'.es.length = 0 := by have := beq_iff_eq.1 h; omega
        rw [show decide (((t'.ks.length : Nat) : Int) > 0) = true from decide_eq_true (by omega)]
        exact hJ27.2 h
      · have h : ((t'.es.length : Nat) : Int) ≠ 0 := by simpa using h
        omega
  · cases hb : entB cols e with
    | true => exact hJ.2 hb
    | false => exact hJ.1 hb
end
end Go.Proofs.YtmelbipidffmpaaGreatDoor.Hw

/- Few, of a good tree: how many entries there are. -/
set_option linter.unusedVariables false
set_option linter.unusedSimpArgs false
set_option linter.unusedSectionVars false
set_option maxRecDepth 20000
namespace Go.Proofs.YtmelbipidffmpaaGreatDoor.Hw
open Go Go.Proofs
/-- The entries of the blocks that were seen. -/
def seenW : List NdM → List Bool → Nat
  | b :: r, true :: l => b.es.length + seenW r l
  | _ :: r, false :: l => seenW r l
  | _, _ => 0
/-- What a call of visit adds. -/
structure Adds (bl : List NdM) (S S' : Sv) (more : Nat) : Prop where
  sub : ∀ e ∈ S.out, e ∈ S'.out
  old : ∀ i : Nat, S.seen[i]? = some true → S'.seen[i]? = some true
  len : S'.seen.length = S.seen.length
  new : ∀ (i : Nat) (b : NdM), bl[i]? = some b → S.seen[i]? = some false → S'.seen[i]? = some true → b.es.length ≤ 8 ∧ b.ks.length ≤ 9 ∧ ∀ e ∈ b.es, e ∈ S'.out
  num : S'.out.length + seenW bl S.seen ≤ S.out.length + seenW bl S'.seen + more
theorem Adds.trans {bl : List NdM} {S S1 S2 : Sv} {m1 m2 : Nat} (a : Adds bl S S1 m1) (b : Adds bl S1 S2 m2) : Adds bl S S2 (m1 + m2) := by
  refine ⟨fun e he => b.sub e (a.sub e he), fun i hi => b.old i (a.old i hi), b.len.trans a.len, fun i x hx h0 h1 => ?_, by have := a.num; have := b.num; omega⟩
  cases hs : S1.seen[i]? with
  | none =>
    have h2 := List.getElem?_eq_none_iff.1 hs
    have h3 := (List.getElem?_eq_some_iff.1 h0).1
    have := a.len
    omega
  | some z =>
    cases z with
    | true =>
      obtain ⟨c1, c2, c3⟩ := a.new i x hx h0 hs
      exact ⟨c1, c2, fun e he => b.sub e (c3 e he)⟩
    | false => exact b.new i x hx hs h1
section
variable {H : Hp} {A : Option Addr} {n c : Nat} {root cols : Int} {bl : List NdM} {Q : Value → Hp → Prop} {S : Sv}
end
end Go.Proofs.YtmelbipidffmpaaGreatDoor.Hw

/- The document's Put, Inserted, Deleted; fits. -/
set_option linter.unusedVariables false
set_option linter.unusedSimpArgs false
set_option linter.unusedSectionVars false
set_option maxRecDepth 20000
namespace Go.Proofs.YtmelbipidffmpaaGreatDoor.Hw
open Go Go.Proofs
theorem sl_take {α : Type} {f : α → List Value} {k : Nat} {H : Hp} {A : Option Addr} {n m : Nat} {l : List α} (hf : ∀ x, (f x).length = k) (hA : SlAt f H A n l) (hm : m ≤ l.length) : SlAt f H A m (l.take m) := by
  have := SlAt.cut (c := n) (p := 0) (m := m) hf hA (Nat.le_refl _) (by omega)
  rw [cut_zero, List.drop_zero] at this
  exact this
theorem sl_drop {α : Type} {f : α → List Value} {k : Nat} {H : Hp} {A : Option Addr} {n c p : Nat} {l : List α} (hf : ∀ x, (f x).length = k) (hA : SlAt f H A n l) (hc : n ≤ c) (hm : p ≤ l.length) : SlAt f H (cutA A (p * k) (decide (c = p))) (n - p) (l.drop p) := by
  have hl := hA.len
  have := SlAt.cut (c := c) (p := p) (m := n - p) hf hA hc (by omega)
  rw [List.take_of_length_le (by rw [List.length_drop]; omega)] at this
  exact this
section
variable {H : Hp} {A : Option Addr} {n c : Nat} {root cols : Int} {bl : List NdM} {Q : Value → Hp → Prop} {l : List EnM} {e : EnM}
theorem c57 (hl : EsAt H A n l) (hc : n ≤ c) (he : KeyAt H e) (hs : l.length < 900000000) (hent : ∀ x ∈ l, entB cols x = true) (hb : entB cols e = true) (hsrt : SrtE l)
    (h0 : hasE l e = true → Q (.tuple #[.slice A n c, .bool false]) H)
    (h1 : hasE l e = false → ∀ A' c' H', Ext H H' → EsAt H' A' (l.length + 1) (l.take (cntE l e) ++ e :: l.drop (cntE l e)) → l.length + 1 ≤ c' → Q (.tuple #[.slice A' (l.length + 1) c', .bool true]) H') :
    HCalls Tryz.prog 57 [.slice A n c, enA e] H Q := by
  refine f57.ok _ _ _ _ _ _ _ ?_
  unfold f57
  obtain rfl := hl.sl.len
  refine loop_to l.length (fun i st H' => st = ((((l.length - i : Nat) : Int), ()), ()) ∧ H' = H ∧ ∀ (j : Nat) (x : EnM), l.length - i ≤ j → l[j]? = some x → ¬ ordE x e < 0) ⟨rfl, rfl, fun j x hj hx => by have := (List.getElem?_eq_some_iff.1 hx).1; omega⟩ ?_
  rintro i st H2 next hi ⟨rfl, rfl, hge⟩ hnext
  dsimp only
  obtain ⟨a, ha⟩ : ∃ a, a = l.length - i := ⟨_, rfl⟩
  rw [← ha] at hge ⊢
  refine jn_intro (fun J => (∀ x, 0 < a → l[a - 1]? = some x → ¬ ordE x e < 0 → J true H2) ∧ ((∀ x, 0 < a → l[a - 1]? = some x → ordE x e < 0) → J false H2)) ⟨fun x ha0 hx hn => cndT rfl ⟨rfl, hnext _ _ (by omega) ⟨?_, rfl, fun j y hj hy => ?_⟩⟩, fun hlt => cndF rfl ?_⟩ fun J hJ => cndI (fun h => ?_) fun h => ?_
  · rw [wrap_id (by omega) (by omega), show l.length - (i + 1) = a - 1 by omega, show ((a : Nat) : Int) - 1 = ((a - 1 : Nat) : Int) by omega]
  · by_cases hja : a ≤ j
    · exact hge j y hja hy
    · have : j = a - 1 := by omega
      subst this
      rw [hx] at hy; cases hy; exact hn
  · have hcnt : cntE l e = a := take_is (p := fun z => decide (ordE z e < 0)) (fun k z hk hz => by
      obtain ⟨y, hy⟩ := get_of (l := l) (i := a - 1) (by omega)
      exact decide_eq_true (ordE_ok.lt_of' (hsrt.le (by omega) hz hy) (hlt y (by omega) hy))) (fun z hz => decide_eq_false (hge a z (Nat.le_refl _) hz)) (by omega)
    have hhas : hasE l e = match l[a]? with | some x => ordE x e == 0 | none => false := by unfold hasE; rw [hcnt] <;> rfl
    refine jn_intro (fun J => (hasE l e = true → J true H2) ∧ (hasE l e = false → J false H2)) ⟨fun h => cndT rfl (h0 h), fun h => cndF rfl ⟨by omega, by omega, by omega, by omega, by omega, by omega, fun g22 hg22 => ?_⟩⟩ fun J hJ => cndI (fun h => ?_) fun h => ?_
    · simp only [Int.toNat_natCast, cut_zero, Nat.sub_zero]
      have x23 : Ext H2 (upd g22 (.cells (enC e).toArray 46 (0, 0)) H2) := Ext.new hg22
      have hA1 : SlAt enC (upd g22 (.cells (enC e).toArray 46 (0, 0)) H2) (some ⟨g22, 0, none⟩) 1 [e] := fresh_sl (l := [e]) (f := enC) (by simp) (by simp [huge])
      have hB1 := (sl_drop (p := a) enC_len hl.sl hc (by omega)).ext x23
      refine appendF_slx enC_len enC_one (by omega) hA1 hB1 (by omega) (Nat.le_refl _) (by unfold big; omega) fun A24 c24 H25 x25 s25 hc25 _ => ?_
      have hA2 := (sl_take (m := a) enC_len hl.sl (by omega)).ext (x23.trans x25)
      refine appendF_slx enC_len enC_one (by omega) hA2 s25 (by omega) (Nat.le_refl _) (by unfold big; omega) fun A26 c26 H27 x27 s27 hc27 _ => ?_
      have e1 : a + (1 + (l.length - a)) = l.length + 1 := by omega
      rw [e1] at s27 hc27 ⊢
      have xx := x23.trans (x25.trans x27)
      refine h1 h A26 c26 H27 xx ⟨by rw [hcnt]; exact s27, fun z hz => ?_⟩ hc27
      rw [hcnt] at hz
      rcases List.mem_append.1 hz with hz | hz
      · exact (hl.key z (List.mem_of_mem_take hz)).ext xx
      · rcases List.mem_cons.1 hz with rfl | hz
        · exact he.ext xx
        · exact (hl.key z (List.mem_of_mem_drop hz)).ext xx
    · have h := of_decide_eq_true h
      obtain ⟨x, hx⟩ := get_of (l := l) (i := a) (by omega)
      have hxm := List.mem_of_getElem? hx
      rw [hx] at hhas
      have hhas : hasE l e = (ordE x e == 0) := hhas
      refine ⟨by omega, by omega, rd_en hl.sl hx fun q o _ k1 k2 => ⟨_, _, _, by simpa using k1, _, by simpa using k2, c59 (cols := cols) (hl.key x hxm) he (hent x hxm) hb ⟨_, rfl, ?_⟩⟩⟩
      rw [← hhas]
      cases hh : hasE l e with
      | true => exact hJ.1 hh
      | false => exact hJ.2 hh
    · have h := of_decide_eq_false h
      rw [List.getElem?_eq_none_iff.2 (by omega)] at hhas
      exact hJ.2 hhas
  · have h := of_decide_eq_true h
    have ew : IntKind.i64.wrap (((a : Nat) : Int) - 1) = ((a - 1 : Nat) : Int) := by rw [wrap_id (by omega) (by omega)]; omega
    rw [ew]
    obtain ⟨x, hx⟩ := get_of (l := l) (i := a - 1) (by omega)
    have hxm := List.mem_of_getElem? hx
    refine ⟨by omega, by omega, rd_en hl.sl hx fun q o _ k1 k2 => ⟨_, _, _, by simpa using k1, _, by simpa using k2, c59 (cols := cols) (hl.key x hxm) he (hent x hxm) hb ⟨_, rfl, ?_⟩⟩⟩
    cases hd : decide (ordE x e ≥ 0) with
    | true => have := of_decide_eq_true hd; exact hJ.1 x (by omega) hx (by omega)
    | false => have := of_decide_eq_false hd; exact hJ.2 fun y _ hy => by rw [hx] at hy; cases hy; omega
  · have h := of_decide_eq_false h
    exact hJ.2 fun x h0 => by omega
/-- fits: a good tree, with its entries. -/
theorem c27o {m k : Nat} {B : Option Addr} {dep : Int} {x : List EnM} (O : OutT H A bl cols l dep) (hB : EsAt H B m x) (he : x.map sayE = l.map sayE) (hq : ∀ H', Ext H H' → Q (.bool true) H') :
    HCalls Tryz.prog 27 [.agg #[.slice A bl.length c, .int .i64 0, .int .i64 cols], .slice B m k, .int .i64 cols, .int .i64 0] H Q := by
  refine f27.ok _ _ _ _ _ _ _ _ _ _ ?_
  unfold f27
  obtain ⟨S, s1, s2, _⟩ := O.val
  refine cndF rfl (c12 O.tr O.few fun A' c' l' H' hx R hl hs => ⟨_, _, _, _, rfl, ?_⟩)
  rw [s1] at hs ⊢
  have hs : l'.map sayE = S.out.map sayE := hs
  refine jn_intro (fun J => J true H') (hq H' hx) fun J hJ => cndT rfl (cndT (by simp) (c15 (hB.ext hx) (R.at (by unfold huge; omega)) (by rw [he, hs, s2]) ⟨_, rfl, hJ⟩))
end
end Go.Proofs.YtmelbipidffmpaaGreatDoor.Hw

/- The fixed calls' entries. -/
set_option linter.unusedVariables false
set_option linter.unusedSimpArgs false
set_option linter.unusedSectionVars false
set_option maxRecDepth 20000
namespace Go.Proofs.YtmelbipidffmpaaGreatDoor.Hw
open Go Go.Proofs
theorem srt_unique : ∀ {l1 l2 : List EnM}, SrtE l1 → SrtE l2 → l1.Perm l2 → l1 = l2
  | [], l2, _, _, h => h.nil_eq
  | a :: r, [], _, _, h => absurd h.length_eq (by simp)
  | a :: r, b :: s, h1, h2, h => by
    unfold SrtE at h1 h2
    rw [List.pairwise_cons] at h1 h2
    have hab : a = b := by
      have ha : a ∈ b :: s := h.mem_iff.1 (List.mem_cons_self ..)
      have hb : b ∈ a :: r := h.mem_iff.2 (List.mem_cons_self ..)
      rcases List.mem_cons.1 ha with e | ha
      · exact e
      · rcases List.mem_cons.1 hb with e | hb
        · exact e.symm
        · exfalso
          have q1 := h1.1 b hb
          have q2 := h2.1 a ha
          have := ordE_ok.anti a b
          omega
    subst hab
    rw [srt_unique h1.2 h2.2 (List.perm_cons a |>.1 h)]
def nV (n : Int) : Vl := ⟨1, n, ByteArray.empty⟩
section
variable {H : Hp} {Q : Value → Hp → Prop}
theorem c35 {n : Int} (hq : Q (vlA (nV n)) H) : HCalls Tryz.prog 35 [.int .i64 n] H Q := by
  refine f35.ok _ ?_
  unfold f35
  exact hq
theorem c34 {n id : Int} (hq : ∀ g, H g = none → Q (enA ⟨some ⟨g, 0, none⟩, 1, [nV n], id⟩) (upd g (.cells (vlC (nV n)).toArray 64 (0, 0)) H)) : HCalls Tryz.prog 34 [.int .i64 n, .int .i64 id] H Q := by
  refine f34.ok _ _ ?_
  unfold f34
  exact c35 ⟨_, _, _, rfl, fun g6 hg6 => hq g6 hg6⟩
theorem key_at {H' : Hp} {g : Nat} {n id : Int} (hx : Ext (upd g (.cells (vlC (nV n)).toArray 64 (0, 0)) H) H') : KeyAt H' ⟨some ⟨g, 0, none⟩, 1, [nV n], id⟩ := by
  refine ⟨⟨rfl, .inr ⟨g, 0, rfl, fun j v hj => ?_⟩, by simp [huge]⟩, Nat.le_refl _, fun v hv => ?_⟩
  · rw [cl_cells (hx _ _ upd_at), Nat.zero_add]
    simpa using hj
  · rw [List.mem_singleton] at hv
    subst hv
    show (0 : Nat) < _
    omega
end
end Go.Proofs.YtmelbipidffmpaaGreatDoor.Hw

/- The fixed calls' order, plain. -/
set_option linter.unusedVariables false
set_option linter.unusedSimpArgs false
set_option linter.unusedSectionVars false
set_option maxRecDepth 20000
namespace Go.Proofs.YtmelbipidffmpaaGreatDoor.Hw
open Go Go.Proofs
theorem ord_fix {a b : EnM} {n m i j : Int} (ha : sayE a = ([nV n], i)) (hb : sayE b = ([nV m], j)) : ordE a b = orI (cmpI n m) (cmpI i j) := by
  have a1 : a.key = [nV n] := congrArg Prod.fst ha
  have a2 : a.id = i := congrArg Prod.snd ha
  have b1 : b.key = [nV m] := congrArg Prod.fst hb
  have b2 : b.id = j := congrArg Prod.snd hb
  unfold ordE
  rw [a1, a2, b1, b2]
  have hs : cmpS ByteArray.empty ByteArray.empty = 0 := cmpS_eq rfl
  have hv : ordV (nV n) (nV m) = cmpI n m := by
    show (if (1 : Int) == 1 then orI (cmpI n m) (cmpS ByteArray.empty ByteArray.empty) else _) = _
    rw [hs]
    show orI (cmpI n m) 0 = cmpI n m
    unfold orI
    split
    · rename_i h; exact (beq_iff_eq.1 h).symm
    · rfl
  have hl : ordL [nV n] [nV m] = cmpI n m := by
    rw [ordL_cons, hv]
    show orI (cmpI n m) 0 = cmpI n m
    unfold orI
    split
    · rename_i h; exact (beq_iff_eq.1 h).symm
    · rfl
  rw [hl]
theorem cmpK_fix {a : EnM} {n m i : Int} (ha : sayE a = ([nV n], i)) : cmpK a [nV m] = cmpI n m := by
  have a1 : a.key = [nV n] := congrArg Prod.fst ha
  have := ord_fix (a := ⟨none, 0, [nV n], 0⟩) (b := ⟨none, 0, [nV m], 0⟩) (n := n) (m := m) (i := 0) (j := 0) rfl rfl
  unfold cmpK
  rw [a1]
  show ordL [nV n] [nV m] = _
  unfold ordE at this
  have hz : cmpI 0 0 = 0 := rfl
  rw [hz] at this
  have o : ∀ x : Int, orI x 0 = x := fun x => by
    unfold orI
    split
    · rename_i h; exact (beq_iff_eq.1 h).symm
    · rfl
  rw [o, o] at this
  exact this
/-- Entries that are numbers. -/
def AreN (l : List EnM) (ps : List (Int × Int)) : Prop := l.map sayE = ps.map fun p => ([nV p.1], p.2)
theorem AreN.nil_of {ps : List (Int × Int)} (h : AreN [] ps) : ps = [] := by
  unfold AreN at h
  cases ps with
  | nil => rfl
  | cons p r => simp at h
theorem AreN.cons {a : EnM} {l : List EnM} {ps : List (Int × Int)} (h : AreN (a :: l) ps) : ∃ p r, ps = p :: r ∧ sayE a = ([nV p.1], p.2) ∧ AreN l r := by
  unfold AreN at h
  cases ps with
  | nil => simp at h
  | cons p r =>
    simp only [List.map_cons, List.cons.injEq] at h
    exact ⟨p, r, rfl, h.1, h.2⟩
theorem betw_fix {a b : Int} : ∀ {l : List EnM} {ps : List (Int × Int)}, AreN l ps → betw l [nV a] [nV b] = (ps.filter fun p => !decide (cmpI p.1 a < 0) && decide (cmpI p.1 b ≤ 0)).map Prod.snd
  | [], ps, h => by rw [h.nil_of]; rfl
  | x :: l, ps, h => by
    obtain ⟨p, r, rfl, hx, hl⟩ := h.cons
    have hi : x.id = p.2 := congrArg Prod.snd hx
    have ih := betw_fix (a := a) (b := b) hl
    unfold betw at ih ⊢
    rw [List.filter_cons, List.filter_cons]
    have : passE [nV a] [nV b] x = (!decide (cmpI p.1 a < 0) && decide (cmpI p.1 b ≤ 0)) := by
      unfold passE
      rw [cmpK_fix hx, cmpK_fix hx]
    rw [this]
    split
    · rw [List.map_cons, List.map_cons, ih, hi]
    · exact ih
theorem ids_fix : ∀ {l : List EnM} {ps : List (Int × Int)}, AreN l ps → l.map EnM.id = ps.map Prod.snd
  | [], ps, h => by rw [h.nil_of]; rfl
  | x :: l, ps, h => by
    obtain ⟨p, r, rfl, hx, hl⟩ := h.cons
    rw [List.map_cons, List.map_cons, ids_fix hl, show x.id = p.2 from congrArg Prod.snd hx]
end Go.Proofs.YtmelbipidffmpaaGreatDoor.Hw

/- What functions of the program come to, by the evaluator: printed by a program of this session (gen.py) and checked here. -/
set_option linter.unusedVariables false
set_option maxRecDepth 100000
namespace Go.Proofs.YtmelbipidffmpaaGreatDoor.Hw
open Go Go.Proofs

/-- justiciar justiciarlaw17.awake -/
def f10  (H : Hp) (Q : Value → Hp → Prop) : Prop :=
  HCalls Tryz.prog 34 [.int .i64 2, .int .i64 4] H fun v1 H2 => ∃ (A3 : Option Addr) (n3 c3 : Nat), ∃ x4 : Int, v1 = .agg #[.slice A3 n3 c3, .int .i64 x4] ∧ HCalls Tryz.prog 34 [.int .i64 1, .int .i64 5] H2 fun v5 H6 => ∃
    (A7 : Option Addr) (n7 c7 : Nat), ∃ x8 : Int, v5 = .agg #[.slice A7 n7 c7, .int .i64 x8] ∧ HCalls Tryz.prog 34 [.int .i64 2, .int .i64 3] H6 fun v9 H10 => ∃ (A11 : Option Addr) (n11 c11 : Nat), ∃ x12 : Int, v9 = .agg
    #[.slice A11 n11 c11, .int .i64 x12] ∧ newF H10 46 [.slice A3 n3 c3, .int .i64 x4, .slice A7 n7 c7, .int .i64 x8, .slice A11 n11 c11, .int .i64 x12] fun g13 H14 => HCalls Tryz.prog 31 [.int .i64 1, .slice (some ⟨g13,
    0, none⟩) 3 3] H14 fun v15 H16 => ∃ (A17 : Option Addr) (n17 c17 : Nat), ∃ x18 : Int, ∃ x19 : Int, ∃ x20 : Int, v15 = .tuple #[.agg #[.slice A17 n17 c17, .int .i64 x18, .int .i64 x19], .int .i64 x20] ∧ HCalls
    Tryz.prog 35 [.int .i64 2] H16 fun v21 H22 => ∃ x23 : Int, ∃ x24 : Int, ∃ s25 : ByteArray, v21 = .agg #[.int .i64 x23, .int .i64 x24, .string s25] ∧ newF H22 64 [.int .i64 x23, .int .i64 x24, .string s25] fun g26 H27
    => HCalls Tryz.prog 20 [.agg #[.slice A17 n17 c17, .int .i64 x18, .int .i64 x19], .slice (some ⟨g26, 0, none⟩) 1 1] H27 fun v28 H29 => ∃ (A30 : Option Addr) (n30 c30 : Nat), ∃ x31 : Int, v28 = .tuple #[.slice A30 n30
    c30, .int .i64 x31] ∧ jn (fun (jA71 : Option Addr) (jn72 : Nat) (jc73 : Nat) (j74 : Int) (H75 : Hp) => HCalls Tryz.prog 23 [.agg #[.slice A17 n17 c17, .int .i64 x18, .int .i64 x19], .slice none 0 0, .slice none 0 0,
    .bool true] H75 fun v77 H78 => ∃ (A79 : Option Addr) (n79 c79 : Nat), ∃ x80 : Int, v77 = .tuple #[.slice A79 n79 c79, .int .i64 x80] ∧ jn (fun (j107 : Int) (jA108 : Option Addr) (jn109 : Nat) (jc110 : Nat) (j111 :
    Int) (j112 : Int) (H113 : Hp) => HCalls Tryz.prog 11 [.agg #[.slice jA108 jn109 jc110, .int .i64 j111, .int .i64 j112]] H113 fun v115 H116 => ∃ (A117 : Option Addr) (n117 c117 : Nat), ∃ x118 : Int, v115 = .tuple
    #[.slice A117 n117 c117, .int .i64 x118] ∧ jn (fun (j145 : Int) (jA146 : Option Addr) (jn147 : Nat) (jc148 : Nat) (j149 : Int) (j150 : Int) (H151 : Hp) => HCalls Tryz.prog 35 [.int .i64 7] H151 fun v153 H154 => ∃ x155
    : Int, ∃ x156 : Int, ∃ s157 : ByteArray, v153 = .agg #[.int .i64 x155, .int .i64 x156, .string s157] ∧ newF H154 64 [.int .i64 x155, .int .i64 x156, .string s157] fun g158 H159 => HCalls Tryz.prog 18 [.agg #[.slice
    jA146 jn147 jc148, .int .i64 j149, .int .i64 j150], .slice (some ⟨g158, 0, none⟩) 1 1] H159 fun v160 H161 => ∃ x162 : Int, ∃ x163 : Int, v160 = .tuple #[.int .i64 x162, .int .i64 x163] ∧ HCalls Tryz.prog 16 [.agg
    #[.slice jA146 jn147 jc148, .int .i64 j149, .int .i64 j150]] H161 fun v164 H165 => ∃ x166 : Int, ∃ x167 : Int, v164 = .tuple #[.int .i64 x166, .int .i64 x167] ∧ jn (fun (j194 : Int) (H195 : Hp) => jn (fun (j223 : Int)
    (H224 : Hp) => HCalls Tryz.prog 33 [.int .i64 2] H224 fun v226 H227 => ∃ (A228 : Option Addr) (n228 c228 : Nat), ∃ x229 : Int, ∃ x230 : Int, ∃ x231 : Int, v226 = .tuple #[.agg #[.slice A228 n228 c228, .int .i64 x229,
    .int .i64 x230], .int .i64 x231] ∧ HCalls Tryz.prog 33 [.int .i64 0] H227 fun v232 H233 => ∃ (A234 : Option Addr) (n234 c234 : Nat), ∃ x235 : Int, ∃ x236 : Int, ∃ x237 : Int, v232 = .tuple #[.agg #[.slice A234 n234
    c234, .int .i64 x235, .int .i64 x236], .int .i64 x237] ∧ jn (fun (j256 : Bool) (H257 : Hp) => Q (.bool j256) H257) fun J258 => cnd ((x20 : Int) == 0) (newF H233 3 [.int .i64 3, .int .i64 4] fun g238 H239 => HCalls
    Tryz.prog 22 [.slice A30 n30 c30, .slice (some ⟨g238, 0, none⟩) 2 2] H239 fun v240 H241 => ∃ x242 : Bool, v240 = .bool x242 ∧ cnd x242 (cnd ((x31 : Int) == 0) (newF H241 3 [.int .i64 5] fun g243 H244 => HCalls
    Tryz.prog 22 [.slice jA71 jn72 jc73, .slice (some ⟨g243, 0, none⟩) 1 1] H244 fun v245 H246 => ∃ x247 : Bool, v245 = .bool x247 ∧ cnd x247 (cnd ((j74 : Int) == 0) (newF H246 3 [.int .i64 4, .int .i64 3, .int .i64 5]
    fun g248 H249 => HCalls Tryz.prog 22 [.slice A79 n79 c79, .slice (some ⟨g248, 0, none⟩) 3 3] H249 fun v250 H251 => ∃ x252 : Bool, v250 = .bool x252 ∧ cnd x252 (cnd ((x80 : Int) == 0) (cnd ((j107 : Int) == 0) (cnd
    ((((n117 : Nat) : Int) : Int) == 4) (cnd ((x118 : Int) == 0) (cnd ((j145 : Int) == 0) (cnd ((x162 : Int) == 1) (cnd ((x163 : Int) == 0) (cnd ((x166 : Int) == 1) (cnd ((x167 : Int) == 0) (cnd ((j194 : Int) == 14) (cnd
    ((j223 : Int) == 4) (HCalls Tryz.prog 13 [.agg #[.slice A228 n228 c228, .int .i64 x229, .int .i64 x230]] H251 fun v253 H254 => ∃ x255 : Bool, v253 = .bool x255 ∧ cnd x255 (cnd ((x231 : Int) == 0) (J258 ((x237 : Int)
    == 2) H254) (J258 false H254)) (J258 false H254)) (J258 false H251)) (J258 false H251)) (J258 false H251)) (J258 false H251)) (J258 false H251)) (J258 false H251)) (J258 false H251)) (J258 false H251)) (J258 false
    H251)) (J258 false H251)) (J258 false H251)) (J258 false H251)) (J258 false H246)) (J258 false H246)) (J258 false H241)) (J258 false H241)) (J258 false H233)) fun J225 => (HCalls Tryz.prog 34 [.int .i64 1, .int .i64
    6] H195 fun v197 H198 => ∃ (A199 : Option Addr) (n199 c199 : Nat), ∃ x200 : Int, v197 = .agg #[.slice A199 n199 c199, .int .i64 x200] ∧ (HCalls Tryz.prog 28 [.agg #[.slice A17 n17 c17, .int .i64 x18, .int .i64 x19],
    .agg #[.slice A199 n199 c199, .int .i64 x200]] H198 fun v201 H202 => ∃ (A203 : Option Addr) (n203 c203 : Nat), ∃ x204 : Int, ∃ x205 : Int, ∃ x206 : Int, v201 = .tuple #[.agg #[.slice A203 n203 c203, .int .i64 x204,
    .int .i64 x205], .int .i64 x206] ∧ J225 x206 H202) ∧ (HCalls Tryz.prog 28 [.agg #[.slice A17 n17 c17, .int .i64 x18, .int .i64 x19], .agg #[.slice A199 n199 c199, .int .i64 x200]] H198 fun v207 H208 => ∃ (A209 :
    Option Addr) (n209 c209 : Nat), ∃ x210 : Int, ∃ x211 : Int, ∃ x212 : Int, v207 = .tuple #[.agg #[.slice A209 n209 c209, .int .i64 x210, .int .i64 x211], .int .i64 x212] ∧ J225 x212 H208)) ∧ (HCalls Tryz.prog 34 [.int
    .i64 1, .int .i64 6] H195 fun v213 H214 => ∃ (A215 : Option Addr) (n215 c215 : Nat), ∃ x216 : Int, v213 = .agg #[.slice A215 n215 c215, .int .i64 x216] ∧ HCalls Tryz.prog 28 [.agg #[.slice A17 n17 c17, .int .i64 x18,
    .int .i64 x19], .agg #[.slice A215 n215 c215, .int .i64 x216]] H214 fun v217 H218 => ∃ (A219 : Option Addr) (n219 c219 : Nat), ∃ x220 : Int, ∃ x221 : Int, ∃ x222 : Int, v217 = .tuple #[.agg #[.slice A219 n219 c219,
    .int .i64 x220, .int .i64 x221], .int .i64 x222] ∧ J225 x222 H218)) fun J196 => (HCalls Tryz.prog 34 [.int .i64 1, .int .i64 5] H165 fun v168 H169 => ∃ (A170 : Option Addr) (n170 c170 : Nat), ∃ x171 : Int, v168 = .agg
    #[.slice A170 n170 c170, .int .i64 x171] ∧ (HCalls Tryz.prog 25 [.agg #[.slice A17 n17 c17, .int .i64 x18, .int .i64 x19], .agg #[.slice A170 n170 c170, .int .i64 x171]] H169 fun v172 H173 => ∃ (A174 : Option Addr)
    (n174 c174 : Nat), ∃ x175 : Int, ∃ x176 : Int, ∃ x177 : Int, v172 = .tuple #[.agg #[.slice A174 n174 c174, .int .i64 x175, .int .i64 x176], .int .i64 x177] ∧ J196 x177 H173) ∧ (HCalls Tryz.prog 25 [.agg #[.slice A17
    n17 c17, .int .i64 x18, .int .i64 x19], .agg #[.slice A170 n170 c170, .int .i64 x171]] H169 fun v178 H179 => ∃ (A180 : Option Addr) (n180 c180 : Nat), ∃ x181 : Int, ∃ x182 : Int, ∃ x183 : Int, v178 = .tuple #[.agg
    #[.slice A180 n180 c180, .int .i64 x181, .int .i64 x182], .int .i64 x183] ∧ J196 x183 H179)) ∧ (HCalls Tryz.prog 34 [.int .i64 1, .int .i64 5] H165 fun v184 H185 => ∃ (A186 : Option Addr) (n186 c186 : Nat), ∃ x187 :
    Int, v184 = .agg #[.slice A186 n186 c186, .int .i64 x187] ∧ HCalls Tryz.prog 25 [.agg #[.slice A17 n17 c17, .int .i64 x18, .int .i64 x19], .agg #[.slice A186 n186 c186, .int .i64 x187]] H185 fun v188 H189 => ∃ (A190 :
    Option Addr) (n190 c190 : Nat), ∃ x191 : Int, ∃ x192 : Int, ∃ x193 : Int, v188 = .tuple #[.agg #[.slice A190 n190 c190, .int .i64 x191, .int .i64 x192], .int .i64 x193] ∧ J196 x193 H189)) fun J152 => (HCalls Tryz.prog
    34 [.int .i64 2, .int .i64 4] H116 fun v119 H120 => ∃ (A121 : Option Addr) (n121 c121 : Nat), ∃ x122 : Int, v119 = .agg #[.slice A121 n121 c121, .int .i64 x122] ∧ (HCalls Tryz.prog 28 [.agg #[.slice jA108 jn109 jc110,
    .int .i64 j111, .int .i64 j112], .agg #[.slice A121 n121 c121, .int .i64 x122]] H120 fun v123 H124 => ∃ (A125 : Option Addr) (n125 c125 : Nat), ∃ x126 : Int, ∃ x127 : Int, ∃ x128 : Int, v123 = .tuple #[.agg #[.slice
    A125 n125 c125, .int .i64 x126, .int .i64 x127], .int .i64 x128] ∧ J152 x128 A125 n125 c125 x126 x127 H124) ∧ (HCalls Tryz.prog 28 [.agg #[.slice jA108 jn109 jc110, .int .i64 j111, .int .i64 j112], .agg #[.slice A121
    n121 c121, .int .i64 x122]] H120 fun v129 H130 => ∃ (A131 : Option Addr) (n131 c131 : Nat), ∃ x132 : Int, ∃ x133 : Int, ∃ x134 : Int, v129 = .tuple #[.agg #[.slice A131 n131 c131, .int .i64 x132, .int .i64 x133], .int
    .i64 x134] ∧ J152 x134 A131 n131 c131 x132 x133 H130)) ∧ (HCalls Tryz.prog 34 [.int .i64 2, .int .i64 4] H116 fun v135 H136 => ∃ (A137 : Option Addr) (n137 c137 : Nat), ∃ x138 : Int, v135 = .agg #[.slice A137 n137
    c137, .int .i64 x138] ∧ HCalls Tryz.prog 28 [.agg #[.slice jA108 jn109 jc110, .int .i64 j111, .int .i64 j112], .agg #[.slice A137 n137 c137, .int .i64 x138]] H136 fun v139 H140 => ∃ (A141 : Option Addr) (n141 c141 :
    Nat), ∃ x142 : Int, ∃ x143 : Int, ∃ x144 : Int, v139 = .tuple #[.agg #[.slice A141 n141 c141, .int .i64 x142, .int .i64 x143], .int .i64 x144] ∧ J152 x144 A141 n141 c141 x142 x143 H140)) fun J114 => (HCalls Tryz.prog
    34 [.int .i64 0, .int .i64 9] H78 fun v81 H82 => ∃ (A83 : Option Addr) (n83 c83 : Nat), ∃ x84 : Int, v81 = .agg #[.slice A83 n83 c83, .int .i64 x84] ∧ (HCalls Tryz.prog 25 [.agg #[.slice A17 n17 c17, .int .i64 x18,
    .int .i64 x19], .agg #[.slice A83 n83 c83, .int .i64 x84]] H82 fun v85 H86 => ∃ (A87 : Option Addr) (n87 c87 : Nat), ∃ x88 : Int, ∃ x89 : Int, ∃ x90 : Int, v85 = .tuple #[.agg #[.slice A87 n87 c87, .int .i64 x88, .int
    .i64 x89], .int .i64 x90] ∧ J114 x90 A87 n87 c87 x88 x89 H86) ∧ (HCalls Tryz.prog 25 [.agg #[.slice A17 n17 c17, .int .i64 x18, .int .i64 x19], .agg #[.slice A83 n83 c83, .int .i64 x84]] H82 fun v91 H92 => ∃ (A93 :
    Option Addr) (n93 c93 : Nat), ∃ x94 : Int, ∃ x95 : Int, ∃ x96 : Int, v91 = .tuple #[.agg #[.slice A93 n93 c93, .int .i64 x94, .int .i64 x95], .int .i64 x96] ∧ J114 x96 A93 n93 c93 x94 x95 H92)) ∧ (HCalls Tryz.prog 34
    [.int .i64 0, .int .i64 9] H78 fun v97 H98 => ∃ (A99 : Option Addr) (n99 c99 : Nat), ∃ x100 : Int, v97 = .agg #[.slice A99 n99 c99, .int .i64 x100] ∧ HCalls Tryz.prog 25 [.agg #[.slice A17 n17 c17, .int .i64 x18, .int
    .i64 x19], .agg #[.slice A99 n99 c99, .int .i64 x100]] H98 fun v101 H102 => ∃ (A103 : Option Addr) (n103 c103 : Nat), ∃ x104 : Int, ∃ x105 : Int, ∃ x106 : Int, v101 = .tuple #[.agg #[.slice A103 n103 c103, .int .i64
    x104, .int .i64 x105], .int .i64 x106] ∧ J114 x106 A103 n103 c103 x104 x105 H102)) fun J76 => HCalls Tryz.prog 35 [.int .i64 1] H29 fun v32 H33 => ∃ x34 : Int, ∃ x35 : Int, ∃ s36 : ByteArray, v32 = .agg #[.int .i64
    x34, .int .i64 x35, .string s36] ∧ (newF H33 64 [.int .i64 x34, .int .i64 x35, .string s36] fun g37 H38 => HCalls Tryz.prog 35 [.int .i64 1] H38 fun v39 H40 => ∃ x41 : Int, ∃ x42 : Int, ∃ s43 : ByteArray, v39 = .agg
    #[.int .i64 x41, .int .i64 x42, .string s43] ∧ newF H40 64 [.int .i64 x41, .int .i64 x42, .string s43] fun g44 H45 => HCalls Tryz.prog 23 [.agg #[.slice A17 n17 c17, .int .i64 x18, .int .i64 x19], .slice (some ⟨g37,
    0, none⟩) 1 1, .slice (some ⟨g44, 0, none⟩) 1 1, .bool false] H45 fun v46 H47 => ∃ (A48 : Option Addr) (n48 c48 : Nat), ∃ x49 : Int, v46 = .tuple #[.slice A48 n48 c48, .int .i64 x49] ∧ J76 A48 n48 c48 x49 H47) ∧
    (HCalls Tryz.prog 35 [.int .i64 1] H33 fun v50 H51 => ∃ x52 : Int, ∃ x53 : Int, ∃ s54 : ByteArray, v50 = .agg #[.int .i64 x52, .int .i64 x53, .string s54] ∧ (newF H51 64 [.int .i64 x34, .int .i64 x35, .string s36] fun
    g55 H56 => newF H56 64 [.int .i64 x52, .int .i64 x53, .string s54] fun g57 H58 => HCalls Tryz.prog 23 [.agg #[.slice A17 n17 c17, .int .i64 x18, .int .i64 x19], .slice (some ⟨g55, 0, none⟩) 1 1, .slice (some ⟨g57, 0,
    none⟩) 1 1, .bool false] H58 fun v59 H60 => ∃ (A61 : Option Addr) (n61 c61 : Nat), ∃ x62 : Int, v59 = .tuple #[.slice A61 n61 c61, .int .i64 x62] ∧ J76 A61 n61 c61 x62 H60) ∧ (newF H51 64 [.int .i64 x52, .int .i64
    x53, .string s54] fun g63 H64 => newF H64 64 [.int .i64 x34, .int .i64 x35, .string s36] fun g65 H66 => HCalls Tryz.prog 23 [.agg #[.slice A17 n17 c17, .int .i64 x18, .int .i64 x19], .slice (some ⟨g65, 0, none⟩) 1 1,
    .slice (some ⟨g63, 0, none⟩) 1 1, .bool false] H66 fun v67 H68 => ∃ (A69 : Option Addr) (n69 c69 : Nat), ∃ x70 : Int, v67 = .tuple #[.slice A69 n69 c69, .int .i64 x70] ∧ J76 A69 n69 c69 x70 H68))
noncomputable def fcx10 : Cx := cx 187 [(1, true), (9, true), (13, true), (19, true), (21, true), (23, true), (25, true)] [] [(2, (.look 0 (.act 1 (.act 2 (.act 3 (.look 4 (.look 5 (.look 6 (.act 7 (.act 8 .done .done) .done)))) .done) .done) .done))), (3, (.look 0 (.act 1 (.act 2 (.act 3 (.act 4 (.act 5 (.look 6 (.look 7 (.look 8 (.act 9 (.act 10 .done .done) .done)))) .done) .done) .done) (.act 3 (.act 2 (.act 4 (.act 5 (.look 6 (.look 7 (.look 8 (.act 9 (.act 10 .done .done) .done)))) .done) .done) (.act 4 (.act 2 (.act 5 (.look 6 (.look 7 (.look 8 (.act 9 (.act 10 .done .done) .done)))) .done) .done) .done)) .done)) .done))), (5, (.look 0 (.act 1 (.act 2 (.look 3 (.look 4 (.look 5 (.act 6 (.act 7 (.act 8 .done .done) .done) .done)))) (.act 6 (.act 2 (.look 3 (.look 4 (.look 5 (.act 7 (.act 8 .done .done) .done)))) .done) .done)) (.act 6 (.act 1 (.act 2 (.look 3 (.look 4 (.look 5 (.act 7 (.act 8 .done .done) .done)))) .done) .done) .done)))), (7, (.look 0 (.act 1 (.act 2 (.look 3 (.look 4 (.look 5 (.act 6 (.act 7 (.act 8 .done .done) .done) .done)))) (.act 6 (.act 2 (.look 3 (.look 4 (.look 5 (.act 7 (.act 8 .done .done) .done)))) .done) .done)) (.act 6 (.act 1 (.act 2 (.look 3 (.look 4 (.look 5 (.act 7 (.act 8 .done .done) .done)))) .done) .done) .done)))), (8, (.look 0 (.act 1 (.act 2 (.act 3 (.look 4 (.look 5 (.look 6 (.act 7 (.act 8 .done .done) .done)))) .done) .done) .done))), (10, (.look 0 (.act 1 (.act 2 (.look 3 (.look 4 (.look 5 (.act 6 (.act 7 (.act 8 .done .done) .done) .done)))) (.act 6 (.act 2 (.look 3 (.look 4 (.look 5 (.act 7 (.act 8 .done .done) .done)))) .done) .done)) (.act 6 (.act 1 (.act 2 (.look 3 (.look 4 (.look 5 (.act 7 (.act 8 .done .done) .done)))) .done) .done) .done)))), (11, (.look 0 (.act 1 (.act 2 (.look 3 (.look 4 (.look 5 (.act 6 (.act 7 (.act 8 .done .done) .done) .done)))) (.act 6 (.act 2 (.look 3 (.look 4 (.look 5 (.act 7 (.act 8 .done .done) .done)))) .done) .done)) (.act 6 (.act 1 (.act 2 (.look 3 (.look 4 (.look 5 (.act 7 (.act 8 .done .done) .done)))) .done) .done) .done))))] []
theorem f10.eq  (H : Hp) (Q : Value → Hp → Prop) : f10  H Q = wFun fcx10 Tryz.f10 [] H Q := by kernel_rfl
theorem f10.ok  {H : Hp} {Q : Value → Hp → Prop} (h : f10  H Q) : HCalls Tryz.prog 10 [] H Q := hcalls_of (cxOk _ _ _ _ _) Tryz.func10 (Eq.mp (f10.eq  H Q) h)

end Go.Proofs.YtmelbipidffmpaaGreatDoor.Hw

/- The fixed calls: Insert and Delete of numbers. -/
set_option linter.unusedVariables false
set_option linter.unusedSimpArgs false
set_option linter.unusedSectionVars false
set_option maxRecDepth 20000
namespace Go.Proofs.YtmelbipidffmpaaGreatDoor.Hw
open Go Go.Proofs
def fE (g : Nat) (n id : Int) : EnM := ⟨some ⟨g, 0, none⟩, 1, [nV n], id⟩
theorem ent_fE {g : Nat} {n id : Int} (h1 : numB n = true) (h2 : idB id = true) : entB 1 (fE g n id) = true := by
  unfold entB fE
  have hv : validV (nV n) = true := by
    unfold validV nV noTx
    rw [if_neg (show ¬ ((1 : Int) == 0) = true by decide), if_pos (show ((1 : Int) == 1) = true by decide), h1, Bool.and_true]
    exact beq_iff_eq.2 rfl
  simp [validL, hv, h2]
/-- Whether a number is there, by what is said. -/
def hasN (ps : List (Int × Int)) (n i : Int) : Bool := ps.any fun p => p.1 == n && p.2 == i
theorem has_fix {l : List EnM} {ps : List (Int × Int)} {e : EnM} {n i : Int} (hl : AreN l ps) (hs : SrtE l) (he : sayE e = ([nV n], i)) : hasE l e = hasN ps n i := by
  have z : ∀ {x : EnM} {p : Int × Int}, sayE x = ([nV p.1], p.2) → (ordE x e = 0 ↔ p.1 = n ∧ p.2 = i) := fun {x p} hx => by
    rw [ord_fix hx he]
    unfold orI
    by_cases h : cmpI p.1 n = 0
    · rw [h]
      have := cmpI_eq.1 h
      simp [this, cmpI_eq]
    · rw [if_neg (by simpa using h)]
      constructor
      · intro h'; exact absurd h' h
      · rintro ⟨h', _⟩; exact absurd (cmpI_eq.2 h') h
  have q : (∃ x ∈ l, ordE x e = 0) ↔ hasN ps n i = true := by
    unfold hasN
    clear hs
    induction l generalizing ps with
    | nil => rw [hl.nil_of]; simp
    | cons x r ih =>
      obtain ⟨p, s, rfl, hx, hr⟩ := hl.cons
      rw [List.any_cons, Bool.or_eq_true, ← ih hr, Bool.and_eq_true, beq_iff_eq, beq_iff_eq, ← z hx]
      simp
  cases hh : hasE l e with
  | true => exact (q.1 (has_true hh)).symm
  | false =>
    cases hn : hasN ps n i with
    | false => rfl
    | true =>
      obtain ⟨x, hx, h0⟩ := q.2 hn
      exact absurd h0 (has_false hs hh x hx)
end Go.Proofs.YtmelbipidffmpaaGreatDoor.Hw

/- The fixed calls, each. -/
set_option linter.unusedVariables false
set_option linter.unusedSimpArgs false
set_option linter.unusedSectionVars false
set_option maxRecDepth 20000
namespace Go.Proofs.YtmelbipidffmpaaGreatDoor.Hw
open Go Go.Proofs
section
variable {H : Hp} {A : Option Addr} {c : Nat} {bl : List NdM} {l : List EnM} {dep : Int} {ps : List (Int × Int)} {Q : Value → Hp → Prop}
theorem OutT.ext {H' : Hp} (O : OutT H A bl 1 l dep) (hx : Ext H H') : OutT H' A bl 1 l dep := ⟨O.tr.ext hx, O.few, O.val⟩
theorem OutT.srt (O : OutT H A bl 1 l dep) : SrtE l := by
  obtain ⟨S, s1, s2, s3⟩ := O.val
  obtain ⟨_, hgd, _⟩ := tree_of s1
  rw [← s2]; exact good_srt hgd
theorem wIns0 {g : Nat} {n i : Int} (N : NullAt H) (O : OutT H A bl 1 l dep) (hl : AreN l ps) (h1 : numB n = true) (h2 : idB i = true) (hK : KeyAt H (fE g n i)) (hh : hasN ps n i = false) (hs : ps.length < 4000)
    (hq : ∀ H' A' c' bl' l' dep', Ext H H' → OutT H' A' bl' 1 l' dep' → PutS l (fE g n i) l' → Q (.tuple #[.agg #[.slice A' bl'.length c', .int .i64 0, .int .i64 1], .int .i64 0]) H') :
    HCalls Tryz.prog 25 [.agg #[.slice A bl.length c, .int .i64 0, .int .i64 1], enA (fE g n i)] H Q := by
  obtain ⟨S, s1, s2, s3⟩ := O.val
  have hlen : l.length = ps.length := by have := congrArg List.length hl; simpa using this
  have hc : insCode (treeV bl 0 1) 1 (fE g n i) = 0 := by
    rw [s1]
    have hf : hasE l (fE g n i) = false := (has_fix (n := n) (i := i) hl O.srt rfl).trans hh
    unfold insCode
    simp only [ent_fE h1 h2, if_true, s2, hf]
    rw [if_neg (show ¬ (false = true) by decide), if_neg (by omega)]
  refine c25 N O.tr O.few hK (fun h => absurd hc h) fun S' hS' _ H' A' c' bl' l' dep' hx O' P => hq H' A' c' bl' l' dep' hx O' ?_
  rw [s1] at hS'
  cases hS'
  rw [s2] at P; exact P
theorem wIns14 {g : Nat} {n i : Int} (N : NullAt H) (O : OutT H A bl 1 l dep) (hl : AreN l ps) (h1 : numB n = true) (h2 : idB i = true) (hK : KeyAt H (fE g n i)) (hh : hasN ps n i = true)
    (hq : ∀ H', Ext H H' → Q (.tuple #[.agg #[.slice none 0 0, .int .i64 0, .int .i64 0], .int .i64 14]) H') :
    HCalls Tryz.prog 25 [.agg #[.slice A bl.length c, .int .i64 0, .int .i64 1], enA (fE g n i)] H Q := by
  obtain ⟨S, s1, s2, s3⟩ := O.val
  have hc : insCode (treeV bl 0 1) 1 (fE g n i) = 14 := by
    rw [s1]
    have hf : hasE l (fE g n i) = true := (has_fix (n := n) (i := i) hl O.srt rfl).trans hh
    unfold insCode
    simp only [ent_fE h1 h2, if_true, s2, hf]
  refine c25 N O.tr O.few hK (fun _ H' hx => by rw [hc]; exact hq H' hx) fun S' hS' h0 => by rw [hc] at h0; cases h0
end
end Go.Proofs.YtmelbipidffmpaaGreatDoor.Hw

/- The fixed calls: awake. -/
set_option linter.unusedVariables false
set_option linter.unusedSimpArgs false
set_option linter.unusedSectionVars false
set_option maxRecDepth 20000
namespace Go.Proofs.YtmelbipidffmpaaGreatDoor.Hw
open Go Go.Proofs
section
variable {H : Hp} {A : Option Addr} {n c : Nat} {root cols : Int} {bl : List NdM} {l : List EnM} {dep : Int} {ps : List (Int × Int)} {Q : Value → Hp → Prop} {key low high : List Vl} {kA lA : Option Addr} {kn kc ln lc : Nat} {back : Bool} {ids : List Int} {cd : Int}
theorem w20 (N : NullAt H) (hT : TrAt H A n bl) (hF : Fewish bl) (hS : SlAt vlC H kA kn key) (hf : findT (treeV bl root cols) cols key = (ids, cd)) (hs : ids.length < big)
    (hq : ∀ A' c' H', Ext H H' → SlAt inC H' A' ids.length ids → Q (.tuple #[.slice A' ids.length c', .int .i64 cd]) H') : HCalls Tryz.prog 20 [.agg #[.slice A n c, .int .i64 root, .int .i64 cols], .slice kA kn kc] H Q :=
  c20 N hT hF hS (by rw [hf]; exact fun A' c' H' hx R => hq A' c' H' hx (R.at hs))
theorem w23 (N : NullAt H) (hT : TrAt H A n bl) (hF : Fewish bl) (hL : SlAt vlC H lA ln low) (hS : SlAt vlC H kA kn high) (hf : betT (treeV bl root cols) cols low high back = (ids, cd)) (hs : ids.length < big)
    (hq : ∀ A' c' H', Ext H H' → SlAt inC H' A' ids.length ids → Q (.tuple #[.slice A' ids.length c', .int .i64 cd]) H') : HCalls Tryz.prog 23 [.agg #[.slice A n c, .int .i64 root, .int .i64 cols], .slice lA ln lc, .slice kA kn kc, .bool back] H Q :=
  c23 N hT hF hL hS (by rw [hf]; exact fun A' c' H' hx R => hq A' c' H' hx (R.at hs))
theorem OutT.ext2 {H' : Hp} (O : OutT H A bl cols l dep) (hx : Ext H H') : OutT H' A bl cols l dep := ⟨O.tr.ext hx, O.few, O.val⟩
theorem OutT.good (O : OutT H A bl cols l dep) : ∃ S, treeV bl 0 cols = some S ∧ S.out = l := by
  obtain ⟨S, s1, s2, _⟩ := O.val
  exact ⟨S, s1, s2⟩
theorem AreN.len (h : AreN l ps) : l.length = ps.length := by have := congrArg List.length h; simpa using this
theorem nV_ok {n : Int} (h : numB n = true) : validL [nV n] = true := by
  have := ent_fE (g := 0) (n := n) (id := 1) h (by decide)
  unfold entB fE at this
  simp only [Bool.and_eq_true] at this
  exact this.2.1
theorem find_fix {n : Int} (O : OutT H A bl 1 l dep) (hl : AreN l ps) (hn : numB n = true) : findT (treeV bl 0 1) 1 [nV n] = ((ps.filter fun p => !decide (cmpI p.1 n < 0) && decide (cmpI p.1 n ≤ 0)).map Prod.snd, 0) := by
  obtain ⟨S, s1, s2⟩ := O.good
  unfold findT betT
  rw [s1, if_neg (by simp)]
  have : keyG 0 1 [nV n] = true := by unfold keyG; rw [nV_ok hn]; rfl
  simp only [this, Bool.and_self, if_true]
  rw [s2, betw_fix hl]; rfl
theorem bet_fix {n m : Int} (O : OutT H A bl 1 l dep) (hl : AreN l ps) (hn : numB n = true) (hm : numB m = true) : betT (treeV bl 0 1) 1 [nV n] [nV m] false = ((ps.filter fun p => !decide (cmpI p.1 n < 0) && decide (cmpI p.1 m ≤ 0)).map Prod.snd, 0) := by
  obtain ⟨S, s1, s2⟩ := O.good
  unfold betT
  rw [s1]
  have k1 : keyG 0 1 [nV n] = true := by unfold keyG; rw [nV_ok hn]; rfl
  have k2 : keyG 0 1 [nV m] = true := by unfold keyG; rw [nV_ok hm]; rfl
  simp only [k1, k2, Bool.and_self, if_true]
  rw [s2, betw_fix hl]; rfl
theorem all_fix (O : OutT H A bl 1 l dep) (hl : AreN l ps) : betT (treeV bl 0 1) 1 [] [] true = ((ps.map Prod.snd).reverse, 0) := by
  obtain ⟨S, s1, s2⟩ := O.good
  unfold betT
  rw [s1]
  have k1 : keyG 0 1 [] = true := by decide
  simp only [k1, Bool.and_self, if_true]
  rw [s2, betw_all (cols := 1), ids_fix hl]; rfl
/-- One entry before all others. -/
theorem put_front {l' : List EnM} {e : EnM} {n i : Int} (hl : AreN l ps) (he : sayE e = ([nV n], i)) (h : PutS l e l') (hf : ∀ p ∈ ps, ¬ orI (cmpI p.1 n) (cmpI p.2 i) < 0) : AreN l' ((n, i) :: ps) := by
  obtain ⟨a, b, h1, h2, h3, h4⟩ := h
  cases a with
  | nil =>
    have h1 : l = b := h1
    subst h1
    unfold AreN at hl ⊢
    rw [h2, List.map_nil, List.nil_append, hl, he]; rfl
  | cons x r =>
    exfalso
    subst h1
    obtain ⟨p, s, hp, hx, _⟩ := AreN.cons hl
    subst hp
    have := h3 x (List.mem_cons_self ..)
    rw [ord_fix hx he] at this
    exact hf p (List.mem_cons_self ..) this
theorem wDel0 {g : Nat} {n i : Int} (N : NullAt H) (O : OutT H A bl 1 l dep) (hl : AreN l ps) (h1 : numB n = true) (h2 : idB i = true) (hK : KeyAt H (fE g n i)) (hh : hasN ps n i = true) (hs : ps.length < 4000)
    (hq : ∀ H' A' c' bl' l' dep', Ext H H' → OutT H' A' bl' 1 l' dep' → l'.length ≤ l.length → Q (.tuple #[.agg #[.slice A' bl'.length c', .int .i64 0, .int .i64 1], .int .i64 0]) H') :
    HCalls Tryz.prog 28 [.agg #[.slice A bl.length c, .int .i64 0, .int .i64 1], enA (fE g n i)] H Q := by
  obtain ⟨S, s1, s2⟩ := O.good
  have hlen := hl.len
  have hf : hasE l (fE g n i) = true := (has_fix (n := n) (i := i) hl O.srt rfl).trans hh
  have hc : delCode (treeV bl 0 1) 1 (fE g n i) = 0 := by
    rw [s1]
    unfold delCode
    simp only [ent_fE h1 h2, if_true, s2, hf]
  refine c28 N O.tr O.few hK (fun S' h' => by rw [s1] at h'; cases h'; rw [s2]; omega) (fun h => absurd hc h) fun S' hS' _ H' A' c' bl' l' dep' hx O' hsay => hq H' A' c' bl' l' dep' hx O' ?_
  rw [s1] at hS'
  cases hS'
  have := congrArg List.length hsay
  rw [s2] at this
  simp at this
  omega
theorem wDel4 {g : Nat} {n i : Int} (N : NullAt H) (O : OutT H A bl 1 l dep) (hl : AreN l ps) (h1 : numB n = true) (h2 : idB i = true) (hK : KeyAt H (fE g n i)) (hh : hasN ps n i = false) (hs : ps.length < 4000)
    (hq : ∀ H', Ext H H' → Q (.tuple #[.agg #[.slice none 0 0, .int .i64 0, .int .i64 0], .int .i64 4]) H') :
    HCalls Tryz.prog 28 [.agg #[.slice A bl.length c, .int .i64 0, .int .i64 1], enA (fE g n i)] H Q := by
  obtain ⟨S, s1, s2⟩ := O.good
  have hlen := hl.len
  have hf : hasE l (fE g n i) = false := (has_fix (n := n) (i := i) hl O.srt rfl).trans hh
  have hc : delCode (treeV bl 0 1) 1 (fE g n i) = 4 := by
    rw [s1]
    unfold delCode
    simp only [ent_fE h1 h2, if_true, s2, hf]
    rfl
  refine c28 N O.tr O.few hK (fun S' h' => by rw [s1] at h'; cases h'; rw [s2]; omega) (fun _ H' hx => by rw [hc]; exact hq H' hx) fun S' hS' h0 => by rw [hc] at h0; cases h0
/-- A small tree is one block. -/
theorem OutT.oneB (O : OutT H A bl 1 l dep) (hs : l.length ≤ 6) : ∃ S t, treeV bl 0 1 = some S ∧ AtB bl 0 0 t ∧ FullB true 0 t ∧ S.out = flatB 0 t ∧ S.leaf = 1 := by
  obtain ⟨S, s1, s2⟩ := O.good
  obtain ⟨_, _, h, t, a1, a2, a3, a4, a5⟩ := tree_of s1
  obtain rfl := low_tree a2 (by rw [← a3, s2]; exact hs)
  exact ⟨S, t, s1, a1, a2, a3, by rw [a4]; rfl⟩
theorem w16 (N : NullAt H) (O : OutT H A bl 1 l dep) (hs : l.length ≤ 6) (hq : ∀ H', Ext H H' → Q (.tuple #[.int .i64 1, .int .i64 0]) H') : HCalls Tryz.prog 16 [.agg #[.slice A bl.length c, .int .i64 0, .int .i64 1]] H Q := by
  obtain ⟨S, t, s1, a1, a2, a3, a4⟩ := O.oneB hs
  have hd : depT (treeV bl 0 1) = (1, 0) := by rw [s1, ← a4]; rfl
  exact c16 N O.tr O.few (by rw [hd]; exact hq)
theorem w18 {n : Int} (N : NullAt H) (O : OutT H A bl 1 l dep) (hs : l.length ≤ 6) (hn : numB n = true) (hS : SlAt vlC H kA kn [nV n]) (hq : ∀ H', Ext H H' → Q (.tuple #[.int .i64 1, .int .i64 0]) H') : HCalls Tryz.prog 18 [.agg #[.slice A bl.length c, .int .i64 0, .int .i64 1], .slice kA kn kc] H Q := by
  obtain ⟨S, t, s1, a1, a2, a3, a4⟩ := O.oneB hs
  have hd : touT 1 1 [nV n] 0 t = (1, 0) := by
    unfold touT
    have : keyG 1 1 [nV n] = true := by unfold keyG; rw [nV_ok hn]; rfl
    rw [if_pos this]; rfl
  exact c18 N O.tr O.few hS s1 a1 a2 a3 (by omega) (by rw [hd]; exact hq)
theorem w11 (N : NullAt H) (O : OutT H A bl 1 l dep) (hq : ∀ A' c' H', Ext H H' → Q (.tuple #[.slice A' l.length c', .int .i64 0]) H') : HCalls Tryz.prog 11 [.agg #[.slice A bl.length c, .int .i64 0, .int .i64 1]] H Q := by
  obtain ⟨S, s1, s2⟩ := O.good
  refine c11 N O.tr O.few fun A' c' l' H' hx R hl he => ?_
  rw [s1] at he ⊢
  have he : l'.map sayE = S.out.map sayE := he
  have : l'.length = l.length := by have := congrArg List.length he; rw [s2] at this; simpa using this
  rw [this]
  exact hq A' c' H' hx
theorem w13 (N : NullAt H) (O : OutT H A bl cols l dep) (hq : ∀ H', Ext H H' → Q (.bool true) H') : HCalls Tryz.prog 13 [.agg #[.slice A bl.length c, .int .i64 0, .int .i64 cols]] H Q := by
  obtain ⟨S, s1, s2⟩ := O.good
  exact c13 N O.tr O.few (by rw [s1]; exact hq)
/-- One number in a slice of its own. -/
theorem key_sl {g : Nat} {n : Int} : SlAt vlC (upd g (.cells (vlC (nV n)).toArray 64 (0, 0)) H) (some ⟨g, 0, none⟩) 1 [nV n] := fresh_sl (l := [nV n]) (f := vlC) (by simp) (by simp [huge])
theorem nil_sl : SlAt vlC H none 0 [] := ⟨rfl, .inl rfl, by simp [huge]⟩
end
end Go.Proofs.YtmelbipidffmpaaGreatDoor.Hw
