/- Cl Da Db Dc De HwFg Cm Cn Co Cp HsFa SaD Cq Cr (joined by merge.py) -/
import Derived.Test.YtmelbipidffmpaaGreatDoorTm7
import Derived.Test.YtmelbipidffmpaaGreatDoorTm3
import Derived.Test.YtmelbipidffmpaaGreatDoorTm5
import Derived.Sort.Grow
import Derived.Deep.Draws
import Derived.Test.YtmelbipidffmpaaGreatDoorTm4
import Derived.Shelf.SlSortCmp.NoneTotal
/- Nodes laid out: tree; New. -/
set_option linter.unusedVariables false
set_option linter.unusedSimpArgs false
set_option linter.unusedSectionVars false
set_option maxRecDepth 20000
namespace Go.Proofs.YtmelbipidffmpaaGreatDoor.Hw
open Go Go.Proofs
theorem FullM.widen {lo hi hi' h : Nat} {t : MT} (F : FullM lo hi h t) (hh : hi ≤ hi') : FullM lo hi' h t := by
  cases h with
  | zero => exact ⟨F.1, F.2.1, by have := F.2.2; omega⟩
  | succ h => exact ⟨F.1, F.2.1, by have := F.2.2.1; omega, F.2.2.2⟩
theorem FullM.lower {lo lo' hi h : Nat} {t : MT} (F : FullM lo hi h t) (hh : lo' ≤ lo) : FullM lo' hi h t := by
  cases h with
  | zero => exact ⟨F.1, by have := F.2.1; omega, F.2.2⟩
  | succ h => exact ⟨F.1, by have := F.2.1; omega, F.2.2.1, F.2.2.2⟩
section
variable {H : Hp} {h lo : Nat} {t : MT} {cols : Int} {Q : Value → Hp → Prop}
/-- A tree that came out: its blocks, and what they say. -/
structure OutT (H : Hp) (A : Option Addr) (bl : List NdM) (cols : Int) (l : List EnM) (dep : Int) : Prop where
  tr : TrAt H A bl.length bl
  few : Fewish bl
  val : ∃ S, treeV bl 0 cols = some S ∧ S.out = l ∧ S.leaf = dep
theorem c55 (M : MemM H h t) (F : FullM lo 8 h t) (h1 : h = 0 ∨ 1 ≤ lo) (hc : 1 ≤ cols ∧ cols ≤ 20) (hn : sizeM h t ≤ 2000) (hs : SrtE (flatM h t)) (he : ∀ e ∈ flatM h t, entB cols e = true) (hkey : ∀ e ∈ flatM h t, KeyAt H e)
    (hq : ∀ H' A c bl, Ext H H' → OutT H' A bl cols (flatM h t) (1 + h) → Q (.agg #[.slice A bl.length c, .int .i64 0, .int .i64 cols]) H') :
    HCalls Tryz.prog 55 [.pointer (some ⟨t.g, 0, none⟩), .int .i64 cols] H Q := by
  refine f55.ok _ _ _ ?_
  unfold f55
  intro g1 hg1
  refine ⟨_, 24, upd_at, by simp, ?_⟩
  have x3 : Ext H (upd g1 (.cells [.slice none 0 0, .int .i64 0, .int .i64 cols].toArray 24 (0, 0)) (upd g1 (.cells [.slice none 0 0, .int .i64 0, .int .i64 0].toArray 24 (0, 0)) H)) := ((Ext.new hg1).upd hg1)
  have e3 : setR [.slice none 0 0, .int .i64 0, .int .i64 0] 0 [.slice none 0 0, .int .i64 0, .int .i64 cols] = [.slice none 0 0, .int .i64 0, .int .i64 cols] := rfl
  rw [e3]
  have F3 : FlAt (upd g1 (.cells [.slice none 0 0, .int .i64 0, .int .i64 cols].toArray 24 (0, 0)) (upd g1 (.cells [.slice none 0 0, .int .i64 0, .int .i64 0].toArray 24 (0, 0)) H)) g1 none 0 cols [] := ⟨⟨24, upd_at⟩, RowO.nil, fun ⟨_, _, hh⟩ => (by cases hh), fun b hb => by cases hb⟩
  have hid : ∀ q ∈ flO g1 none, H q = none := fun q hq => by
    rw [flO_mem] at hq
    rcases hq with rfl | ⟨_, _, hh⟩
    · exact hg1
    · cases hh
  refine c82 M ((F.lower (Nat.zero_le _)).widen (by omega)) x3 hid F3 (by simp; omega) fun H5 A' c' l F5 hB Fr hE => ⟨_, rfl, ?_⟩
  rw [List.nil_append] at F5
  obtain ⟨ty, hc5⟩ := F5.cell
  have x5 : Ext H H5 := Fr.ext x3 hid
  have k : ∀ i, cl H5 g1 i = [Value.slice A' l.length c', .int .i64 0, .int .i64 cols][i]? := fun i => cl_cells hc5 i
  refine ⟨_, _, _, k 0, _, k 1, _, k 2, hq H5 A' c' l x5 ⟨⟨⟨rfl, F5.row.cells, ?_⟩, fun b hb => ?_⟩, fun b hb => ?_, ?_⟩⟩
  · have := blk_len hB
    unfold huge; omega
  · obtain ⟨z1, z2, z3, z4, z5⟩ := hE b hb
    exact ⟨z1.ext x5, z2, (F5.kid b hb).1, fun e he => (hkey e (z3 e he)).ext x5⟩
  · obtain ⟨z1, z2, z3, z4, z5⟩ := hE b hb
    omega
  · exact tree_blk hB F h1 hc hn (by have := deep_lt F; omega) hs he
theorem c33 (hq0 : ¬ (1 ≤ cols ∧ cols ≤ 20) → Q (.tuple #[.agg #[.slice none 0 0, .int .i64 0, .int .i64 0], .int .i64 2]) H)
    (hq : (1 ≤ cols ∧ cols ≤ 20) → ∀ H' A c bl, Ext H H' → OutT H' A bl cols [] 1 → Q (.tuple #[.agg #[.slice A bl.length c, .int .i64 0, .int .i64 cols], .int .i64 0]) H') : HCalls Tryz.prog 33 [.int .i64 cols] H Q := by
  refine f33.ok _ ?_
  unfold f33
  refine jn_intro (fun J => (¬ (1 ≤ cols ∧ cols ≤ 20) → J true) ∧ ((1 ≤ cols ∧ cols ≤ 20) → J false)) ⟨fun hn => cndT rfl (hq0 hn), fun hy => cndF rfl ⟨rfl, by omega, by omega, fun g3 hg3 => ?_⟩⟩ fun J hJ => cndI (fun h1 => hJ.1 ?_) fun h1 => ?_
  · have x4 : Ext H (upd g3 (.cells [Value.slice none 0 0, .slice none 0 0].toArray 60 (0, 0)) H) := Ext.new hg3
    refine hq hy _ (some ⟨g3, 0, none⟩) 1 [⟨none, 0, [], none, 0, []⟩] x4 ⟨⟨fresh_sl (l := [⟨none, 0, [], none, 0, []⟩]) (f := ndC) rfl (by simp [huge]), fun b hb => ?_⟩, fun b hb => ?_, ?_⟩
    · rw [List.mem_singleton] at hb
      subst hb
      exact ⟨⟨rfl, .inl rfl, by simp [huge]⟩, Nat.le_refl _, ⟨rfl, .inl rfl, by simp [huge]⟩, fun e he => by cases he⟩
    · rw [List.mem_singleton] at hb
      subst hb
      simp
    · obtain ⟨S, s1, s2, s3⟩ := tree_blk (bl := [⟨none, 0, [], none, 0, []⟩]) (h := 0) (lo := 0) (cols := cols) (t := .mk 0 none 0 [] none 0 []) ⟨_, rfl, rfl, rfl⟩ ⟨rfl, Nat.le_refl _, by simp [MT.es]⟩ (.inl rfl) hy (by simp [sizeM]) (by simp [sizeM]) List.Pairwise.nil (fun e he => by cases he)
      exact ⟨S, s1, s2, by rw [s3]; rfl⟩
  · have := of_decide_eq_true h1; omega
  · have h1 := of_decide_eq_false h1
    cases h2 : decide (cols > 20) with
    | true => have := of_decide_eq_true h2; exact hJ.1 (by omega)
    | false => have := of_decide_eq_false h2; exact hJ.2 (by omega)
end
end Go.Proofs.YtmelbipidffmpaaGreatDoor.Hw

/- Nodes: what is done to a node's own rows, each with what it touches. -/
set_option linter.unusedVariables false
set_option linter.unusedSimpArgs false
set_option linter.unusedSectionVars false
set_option maxRecDepth 20000
namespace Go.Proofs.YtmelbipidffmpaaGreatDoor.Hw
open Go Go.Proofs
section
variable {H H10 : Hp} {t : MT} {A' : Option Addr} {c' n' : Nat} {K : Hp → Prop}
theorem setE_fr {es' : List EnM} (N : NodeM H t) (nd : (own1 t).Nodup) (hn : n' = es'.length) (R : RowO H10 A' es'.length c' 2 (es'.flatMap enC)) (F : FrO H H10 t.eA A')
    (hk : ∀ H', NodeM H' (.mk t.g A' c' es' t.kA t.kc t.ks) → (own1 (.mk t.g A' c' es' t.kA t.kc t.ks)).Nodup → FrM H H' (own1 t) (own1 (.mk t.g A' c' es' t.kA t.kc t.ks)) → K H') : storeF H10 t.g (0 + 0) [.slice A' n' c'] K := by
  obtain ⟨n1, n2, n3⟩ := nd1 nd
  have tl : H t.g ≠ none := N.live t.g (by simp [own1])
  have h1 : ¬ rowB A' t.g := fun h => by
    rcases F.nw _ h with h | h
    · exact n1 h
    · exact tl h
  have keep : ∀ q, ¬ rowB t.eA q → H q ≠ none → H10 q = H q := fun q hq hn => Classical.byContradiction fun hne => by
    rcases F.ch q hne with h | h
    · exact hq h
    · exact hn h
  obtain ⟨ty, hc⟩ := N.cell
  have hc10 : ∃ ty, H10 t.g = some (.cells (nodeC t.eA t.es.length t.ec t.kA t.ks.length t.kc).toArray ty (0, 0)) := ⟨ty, (keep _ n1 (by rw [hc]; simp)).trans hc⟩
  have k10 : RowO H10 t.kA t.ks.length t.kc 1 (t.ks.flatMap ptC) := N.kr.keep fun q hq hn => keep q (fun h => n3 q h hq) hn
  refine setE' hc10 k10 hn R h1 n2 fun H12 N12 off lv => hk H12 N12 (nd_mk h1 n2 fun q hq hkq => ?_) ⟨fun q hq => ?_, fun q hq => ?_, fun q hq => ?_⟩
  · rcases F.nw q hq with h | h
    · exact n3 q h hkq
    · exact N.kr.live hkq h
  · by_cases e1 : q = t.g
    · subst e1; exact .inl (by simp [own1])
    · rw [off q e1] at hq
      rcases F.ch q hq with h | h
      · exact .inl (by simp [own1, blk_row, h])
      · exact .inr h
  · rcases List.mem_cons.1 hq with h | h
    · exact .inl (by rw [h]; simp [own1, MT.g])
    · rcases List.mem_append.1 h with h | h
      · rcases F.nw q (blk_row.1 h) with h | h
        · exact .inl (by simp [own1, blk_row, h])
        · exact .inr h
      · exact .inl (by simp only [own1, List.mem_cons, List.mem_append]; exact .inr (.inr h))
  · by_cases e1 : q = t.g
    · subst e1; exact lv
    · rw [off q e1]
      exact F.al q hq
theorem setK_fr {ks' : List MT} (N : NodeM H t) (nd : (own1 t).Nodup) (hn : n' = ks'.length) (R : RowO H10 A' ks'.length c' 1 (ks'.flatMap ptC)) (F : FrO H H10 t.kA A')
    (hk : ∀ H', NodeM H' (.mk t.g t.eA t.ec t.es A' c' ks') → (own1 (.mk t.g t.eA t.ec t.es A' c' ks')).Nodup → FrM H H' (own1 t) (own1 (.mk t.g t.eA t.ec t.es A' c' ks')) → K H') : storeF H10 t.g (0 + 1) [.slice A' n' c'] K := by
  obtain ⟨n1, n2, n3⟩ := nd1 nd
  have tl : H t.g ≠ none := N.live t.g (by simp [own1])
  have h1 : ¬ rowB A' t.g := fun h => by
    rcases F.nw _ h with h | h
    · exact n2 h
    · exact tl h
  have keep : ∀ q, ¬ rowB t.kA q → H q ≠ none → H10 q = H q := fun q hq hn => Classical.byContradiction fun hne => by
    rcases F.ch q hne with h | h
    · exact hq h
    · exact hn h
  obtain ⟨ty, hc⟩ := N.cell
  have hc10 : ∃ ty, H10 t.g = some (.cells (nodeC t.eA t.es.length t.ec t.kA t.ks.length t.kc).toArray ty (0, 0)) := ⟨ty, (keep _ n2 (by rw [hc]; simp)).trans hc⟩
  have k10 : RowO H10 t.eA t.es.length t.ec 2 (t.es.flatMap enC) := N.er.keep fun q hq hn => keep q (fun h => n3 q hq h) hn
  refine setK' hc10 k10 hn R h1 n1 fun H12 N12 off lv => hk H12 N12 (nd_mk n1 h1 fun q hq hkq => ?_) ⟨fun q hq => ?_, fun q hq => ?_, fun q hq => ?_⟩
  · rcases F.nw q hkq with h | h
    · exact n3 q hq h
    · exact N.er.live hq h
  · by_cases e1 : q = t.g
    · subst e1; exact .inl (by simp [own1])
    · rw [off q e1] at hq
      rcases F.ch q hq with h | h
      · exact .inl (by simp [own1, blk_row, h])
      · exact .inr h
  · rcases List.mem_cons.1 hq with h | h
    · exact .inl (by rw [h]; simp [own1, MT.g])
    · rcases List.mem_append.1 h with h | h
      · exact .inl (by simp only [own1, List.mem_cons, List.mem_append]; exact .inr (.inl h))
      · rcases F.nw q (blk_row.1 h) with h | h
        · exact .inl (by simp [own1, blk_row, h])
        · exact .inr h
  · by_cases e1 : q = t.g
    · subst e1; exact lv
    · rw [off q e1]
      exact F.al q hq
theorem FrO.cut {A : Option Addr} {p : Nat} {s : Bool} : FrO H H A (cutA A p s) := ⟨fun q h => absurd rfl h, fun q h => .inl (rowB_cut.1 h), fun q h => h⟩
/-- The first entries alone stay. -/
theorem cutE {m : Nat} (N : NodeM H t) (nd : (own1 t).Nodup) (hm : m ≤ t.es.length)
    (hk : ∀ H', NodeM H' (.mk t.g t.eA t.ec (t.es.take m) t.kA t.kc t.ks) → (own1 (.mk t.g t.eA t.ec (t.es.take m) t.kA t.kc t.ks)).Nodup → FrM H H' (own1 t) (own1 (.mk t.g t.eA t.ec (t.es.take m) t.kA t.kc t.ks)) → K H') : storeF H t.g (0 + 0) [.slice t.eA m t.ec] K := by
  have hl : (t.es.take m).length = m := by rw [List.length_take]; omega
  have R := N.er.take hm
  rw [flat_take enC_len] at R
  exact setE_fr N nd hl.symm (by rw [hl]; exact R) FrO.refl hk
theorem cutK {m : Nat} (N : NodeM H t) (nd : (own1 t).Nodup) (hm : m ≤ t.ks.length)
    (hk : ∀ H', NodeM H' (.mk t.g t.eA t.ec t.es t.kA t.kc (t.ks.take m)) → (own1 (.mk t.g t.eA t.ec t.es t.kA t.kc (t.ks.take m))).Nodup → FrM H H' (own1 t) (own1 (.mk t.g t.eA t.ec t.es t.kA t.kc (t.ks.take m))) → K H') : storeF H t.g (0 + 1) [.slice t.kA m t.kc] K := by
  have hl : (t.ks.take m).length = m := by rw [List.length_take]; omega
  have R := N.kr.take hm
  rw [flat_take ptC_len] at R
  exact setK_fr N nd hl.symm (by rw [hl]; exact R) FrO.refl hk
/-- The first ones go. -/
theorem dropE {p : Nat} (N : NodeM H t) (nd : (own1 t).Nodup) (hp : p < t.es.length)
    (hk : ∀ H' A' c', NodeM H' (.mk t.g A' c' (t.es.drop p) t.kA t.kc t.ks) → (own1 (.mk t.g A' c' (t.es.drop p) t.kA t.kc t.ks)).Nodup → FrM H H' (own1 t) (own1 (.mk t.g A' c' (t.es.drop p) t.kA t.kc t.ks)) → K H') : storeF H t.g (0 + 0) [.slice (cutA t.eA (p * 2) (decide (t.ec = p))) (t.es.length - p) (t.ec - p)] K := by
  have hle := N.er.le
  have hl : (t.es.drop p).length = t.es.length - p := by rw [List.length_drop]
  have R := N.er.drop (p := p) (by omega) (by omega)
  rw [flat_drop enC_len] at R
  exact setE_fr N nd hl.symm (by rw [hl]; exact R) FrO.cut fun H' a b c => hk H' _ _ a b c
theorem dropK {p : Nat} (N : NodeM H t) (nd : (own1 t).Nodup) (hp : p < t.ks.length)
    (hk : ∀ H' A' c', NodeM H' (.mk t.g t.eA t.ec t.es A' c' (t.ks.drop p)) → (own1 (.mk t.g t.eA t.ec t.es A' c' (t.ks.drop p))).Nodup → FrM H H' (own1 t) (own1 (.mk t.g t.eA t.ec t.es A' c' (t.ks.drop p))) → K H') : storeF H t.g (0 + 1) [.slice (cutA t.kA (p * 1) (decide (t.kc = p))) (t.ks.length - p) (t.kc - p)] K := by
  have hle := N.kr.le
  have hl : (t.ks.drop p).length = t.ks.length - p := by rw [List.length_drop]
  have R := N.kr.drop (p := p) (by omega) (by omega)
  rw [flat_drop ptC_len] at R
  exact setK_fr N nd hl.symm (by rw [hl]; exact R) FrO.cut fun H' a b c => hk H' _ _ a b c
/-- An entry gives way to another. -/
theorem writeE {i : Nat} {x : EnM} (N : NodeM H t) (nd : (own1 t).Nodup) (hi : i < t.es.length)
    (hk : ∀ H', NodeM H' (.mk t.g t.eA t.ec (t.es.set i x) t.kA t.kc t.ks) → (own1 (.mk t.g t.eA t.ec (t.es.set i x) t.kA t.kc t.ks)).Nodup → FrM H H' (own1 t) (own1 (.mk t.g t.eA t.ec (t.es.set i x) t.kA t.kc t.ks)) → K H') : onPtr t.eA fun b o => storeF H b (o + i * 2) (enC x) K := by
  obtain ⟨n1, n2, n3⟩ := nd1 nd
  have hle := N.er.le
  refine N.er.store (p := i) (m := 1) (n' := t.es.length) rfl (by omega) (by omega) (by omega) (by omega) fun H' R' F => hk H' ?_ nd ⟨fun q hq => (F.ch q hq).imp (fun h => by simp [own1, blk_row, h]) id, fun q hq => .inl hq, F.al⟩
  have keep : ∀ q, ¬ rowB t.eA q → H q ≠ none → H' q = H q := fun q hq hn => Classical.byContradiction fun hne => by
    rcases F.ch q hne with h | h
    · exact hq h
    · exact hn h
  rw [flat_set enC_len hi] at R'
  obtain ⟨ty, hc⟩ := N.cell
  have hl : (t.es.set i x).length = t.es.length := List.length_set
  refine ⟨⟨ty, ?_⟩, by show RowO H' t.eA (t.es.set i x).length _ _ _; rw [hl]; exact R', N.kr.keep fun q hq hn => keep q (fun h => n3 q h hq) hn⟩
  show H' t.g = some (.cells (nodeC t.eA (t.es.set i x).length t.ec t.kA t.ks.length t.kc).toArray ty (0, 0))
  rw [hl]
  exact (keep _ n1 (by rw [hc]; simp)).trans hc
/-- An entry, a kid, behind the others. -/
theorem apE {e : EnM} (N : NodeM H t) (nd : (own1 t).Nodup) (hs : t.es.length < 1000)
    (hk : ∀ H' A' c', NodeM H' (.mk t.g A' c' (t.es ++ [e]) t.kA t.kc t.ks) → (own1 (.mk t.g A' c' (t.es ++ [e]) t.kA t.kc t.ks)).Nodup → FrM H H' (own1 t) (own1 (.mk t.g A' c' (t.es ++ [e]) t.kA t.kc t.ks)) → K H') :
    newF H 46 (enC e) fun g H2 => appendF H2 46 2 32 t.eA t.es.length t.ec (some ⟨g, 0, none⟩) 1 fun A3 n3 c3 H4 => storeF H4 t.g (0 + 0) [.slice A3 n3 c3] K := by
  intro g hg
  have x8 : Ext H (upd g (.cells (enC e).toArray 46 (0, 0)) H) := Ext.new hg
  have N8 := N.ext x8
  refine N8.er.append (new := enC e) (cellsAt_one upd_at) rfl (enC_one e) (by unfold big; omega) (by omega) fun A' c' H10 R10 F10 _ => ?_
  have el : (t.es ++ [e]).length = t.es.length + 1 := by simp
  exact setE_fr N8 nd el.symm (by rw [el, List.flatMap_append]; simpa using R10) F10 fun H' a b c => hk H' A' c' a b ((FrM.ofExt x8).trans c)
theorem apK {v : MT} (N : NodeM H t) (nd : (own1 t).Nodup) (hs : t.ks.length < 1000)
    (hk : ∀ H' A' c', NodeM H' (.mk t.g t.eA t.ec t.es A' c' (t.ks ++ [v])) → (own1 (.mk t.g t.eA t.ec t.es A' c' (t.ks ++ [v]))).Nodup → FrM H H' (own1 t) (own1 (.mk t.g t.eA t.ec t.es A' c' (t.ks ++ [v]))) → K H') :
    newF H 86 [.pointer (some ⟨v.g, 0, none⟩)] fun g H2 => appendF H2 86 1 8 t.kA t.ks.length t.kc (some ⟨g, 0, none⟩) 1 fun A3 n3 c3 H4 => storeF H4 t.g (0 + 1) [.slice A3 n3 c3] K := by
  intro g hg
  have x8 : Ext H (upd g (.cells (ptC v).toArray 86 (0, 0)) H) := Ext.new hg
  have N8 := N.ext x8
  refine N8.kr.append (new := ptC v) (cellsAt_one upd_at) rfl (ptC_one v) (by unfold big; omega) (by omega) fun A' c' H10 R10 F10 _ => ?_
  have el : (t.ks ++ [v]).length = t.ks.length + 1 := by simp
  exact setK_fr N8 nd el.symm (by rw [el, List.flatMap_append]; simpa using R10) F10 fun H' a b c => hk H' A' c' a b ((FrM.ofExt x8).trans c)
/-- Kids of another node, behind a node's own. -/
theorem apKs {u : MT} (N : NodeM H t) (nd : (own1 t).Nodup) (Nu : NodeM H u) (hs : t.ks.length + u.ks.length < 1000)
    (hk : ∀ H' A' c', NodeM H' (.mk t.g t.eA t.ec t.es A' c' (t.ks ++ u.ks)) → (own1 (.mk t.g t.eA t.ec t.es A' c' (t.ks ++ u.ks))).Nodup → FrM H H' (own1 t) (own1 (.mk t.g t.eA t.ec t.es A' c' (t.ks ++ u.ks))) → K H') :
    appendF H 86 1 8 t.kA t.ks.length t.kc u.kA u.ks.length fun A3 n3 c3 H4 => storeF H4 t.g (0 + 1) [.slice A3 n3 c3] K := by
  refine N.kr.append (new := u.ks.flatMap ptC) (m := u.ks.length) Nu.kr.cells (flat_length fun x _ => ptC_len x) (fun v hv => by obtain ⟨x, _, hx⟩ := List.mem_flatMap.1 hv; exact ptC_one x v hx) (by unfold big; omega) (by omega) fun A' c' H10 R10 F10 _ => ?_
  have el : (t.ks ++ u.ks).length = t.ks.length + u.ks.length := by simp
  exact setK_fr N nd el.symm (by rw [el, List.flatMap_append]; exact R10) F10 fun H' a b c => hk H' A' c' a b c
/-- A kid is taken out. -/
theorem takeK {i : Nat} (N : NodeM H t) (nd : (own1 t).Nodup) (hi : i < t.ks.length) (hs : t.ks.length < 1000)
    (hk : ∀ H', NodeM H' (.mk t.g t.eA t.ec t.es t.kA t.kc (t.ks.take i ++ t.ks.drop (i + 1))) → (own1 (.mk t.g t.eA t.ec t.es t.kA t.kc (t.ks.take i ++ t.ks.drop (i + 1)))).Nodup → FrM H H' (own1 t) (own1 (.mk t.g t.eA t.ec t.es t.kA t.kc (t.ks.take i ++ t.ks.drop (i + 1)))) → K H') :
    HCalls Tryz.prog 125 [.slice t.kA t.ks.length t.kc, .int .i64 (i : Int), .int .i64 ((i + 1 : Nat) : Int)] H fun v9 H10 => ∃ (A11 : Option Addr) (n11 c11 : Nat), v9 = .slice A11 n11 c11 ∧ storeF H10 t.g (0 + 1) [.slice A11 n11 c11] K := by
  refine f125.ok _ _ _ _ _ ?_
  rw [f125_is]
  refine del_ok N.kr (by omega) rfl (fun v hv => by obtain ⟨x, _, hx⟩ := List.mem_flatMap.1 hv; exact ptC_one x v hx) (Nat.lt_succ_self i) (by omega) (by unfold big; omega) (by omega) fun H10 R10 F10 => ⟨_, _, _, rfl, ?_⟩
  rw [flat_take ptC_len, flat_drop ptC_len, ← List.flatMap_append] at R10
  have hl : (t.ks.take i ++ t.ks.drop (i + 1)).length = i + (t.ks.length - (i + 1)) := by simp; omega
  exact setK_fr N nd hl.symm (by rw [hl]; exact R10) F10 hk
end
end Go.Proofs.YtmelbipidffmpaaGreatDoor.Hw

/- A node and two kids beside each other: what is done to their own blocks. -/
set_option linter.unusedVariables false
set_option linter.unusedSimpArgs false
set_option linter.unusedSectionVars false
set_option maxRecDepth 20000
namespace Go.Proofs.YtmelbipidffmpaaGreatDoor.Hw
open Go Go.Proofs
theorem FrM.congr {H H' : Hp} {O O' P P' : List Nat} (F : FrM H H' O O') (h : ∀ q, q ∈ O → q ∈ P) (h' : ∀ q, q ∈ P' → q ∈ O') : FrM H H' P P' := ⟨fun q e => (F.ch q e).imp (h q) id, fun q hq => (F.nw q (h' q hq)).imp (h q) id, F.al⟩
/-- Three nodes, apart. -/
structure Tri (H0 H : Hp) (O : List Nat) (a b c : MT) : Prop where
  na : NodeM H a
  nb : NodeM H b
  nc : NodeM H c
  nd : (own1 a ++ own1 b ++ own1 c).Nodup
  fr : FrM H0 H O (own1 a ++ own1 b ++ own1 c)
section
variable {H0 H H' : Hp} {O : List Nat} {a b c a' b' c' : MT}
theorem Tri.nda (T : Tri H0 H O a b c) : (own1 a).Nodup := by
  have := T.nd
  rw [List.append_assoc, List.nodup_append] at this
  exact this.1
theorem Tri.s12 (T : Tri H0 H O a b c) : Tri H0 H O b a c := ⟨T.nb, T.na, T.nc, (List.Perm.append_right _ List.perm_append_comm).nodup_iff.1 T.nd, T.fr.congr (fun _ h => h) fun q h => by
  simp only [List.mem_append] at h ⊢
  rcases h with (h | h) | h <;> simp [h]⟩
theorem Tri.s23 (T : Tri H0 H O a b c) : Tri H0 H O a c b := ⟨T.na, T.nc, T.nb, (by
  have h := T.nd
  rw [List.append_assoc] at h ⊢
  exact (List.Perm.append_left _ List.perm_append_comm).nodup_iff.1 h), T.fr.congr (fun _ h => h) fun q h => by
  simp only [List.mem_append] at h ⊢
  rcases h with (h | h) | h <;> simp [h]⟩
theorem Tri.ndb (T : Tri H0 H O a b c) : (own1 b).Nodup := T.s12.nda
theorem Tri.ndc (T : Tri H0 H O a b c) : (own1 c).Nodup := T.s23.ndb
theorem Tri.put2 (T : Tri H0 H O a b c) (N' : NodeM H' b') (nd' : (own1 b').Nodup) (F : FrM H H' (own1 b) (own1 b')) : Tri H0 H' O a b' c := by
  have h := T.nd
  rw [List.append_assoc, List.nodup_append] at h
  obtain ⟨h1, h2, h3⟩ := h
  rw [List.nodup_append] at h2
  obtain ⟨h4, h5, h6⟩ := h2
  have sa : ∀ q ∈ own1 a, q ∉ own1 b := fun q hq hb => h3 q hq q (List.mem_append_left _ hb) rfl
  have sc : ∀ q ∈ own1 c, q ∉ own1 b := fun q hq hb => h6 q hb q hq rfl
  refine ⟨T.na.keep fun q hq => F.off (sa q hq) (T.na.live q hq), N', T.nc.keep fun q hq => F.off (sc q hq) (T.nc.live q hq), nodup_swap T.nd nd' fun q hq => ?_, T.fr.trans F.wide⟩
  rcases F.nw q hq with h | h
  · exact .inl h
  · exact .inr ⟨fun ha => T.na.live q ha h, fun hc => T.nc.live q hc h⟩
theorem Tri.put1 (T : Tri H0 H O a b c) (N' : NodeM H' a') (nd' : (own1 a').Nodup) (F : FrM H H' (own1 a) (own1 a')) : Tri H0 H' O a' b c := (T.s12.put2 N' nd' F).s12
theorem Tri.put3 (T : Tri H0 H O a b c) (N' : NodeM H' c') (nd' : (own1 c').Nodup) (F : FrM H H' (own1 c) (own1 c')) : Tri H0 H' O a b c' := (T.s23.put2 N' nd' F).s23
theorem NodeM.same {t : MT} {ks' : List MT} (N : NodeM H t) (h : ks'.flatMap ptC = t.ks.flatMap ptC) : NodeM H (.mk t.g t.eA t.ec t.es t.kA t.kc ks') := by
  have hl : ks'.length = t.ks.length := by
    have := congrArg List.length h
    rw [flat_length (k := 1) (fun x _ => ptC_len x), flat_length (k := 1) (fun x _ => ptC_len x)] at this
    omega
  obtain ⟨⟨ty, hc⟩, e, k⟩ := N
  rw [← hl] at hc k
  rw [← h] at k
  exact ⟨⟨ty, hc⟩, e, k⟩
/-- The kids' pointers alone stand in a node. -/
theorem Tri.same1 {ks' : List MT} (T : Tri H0 H O a b c) (h : ks'.flatMap ptC = a.ks.flatMap ptC) : Tri H0 H O (.mk a.g a.eA a.ec a.es a.kA a.kc ks') b c := ⟨T.na.same h, T.nb, T.nc, T.nd, T.fr⟩
end
section
variable {H0 H : Hp} {h : Nat} {t t' p q p' q' : MT} {K1 K2 L U : List MT}
/-- Some kids give way to some. -/
theorem sep_some (S : SepM (h + 1) t) (hk : t.ks = K1 ++ (U ++ K2)) (hlive : ∀ x ∈ ownM (h + 1) t, H x ≠ none) (hL : ∀ v ∈ L, SepM h v) (hLp : L.Pairwise (Apart h)) (hLn : ∀ v ∈ L, ∀ x ∈ ownM h v, (x ∈ own1 t ∨ ∃ u ∈ U, x ∈ ownM h u) ∨ H x = none)
    (ht : t'.ks = K1 ++ (L ++ K2)) (ho : (own1 t').Nodup) (hoq : ∀ x ∈ own1 t', ((x ∈ own1 t ∨ ∃ u ∈ U, x ∈ ownM h u) ∨ H x = none) ∧ ∀ v ∈ L, x ∉ ownM h v) : SepM (h + 1) t' := by
  obtain ⟨s1, s2, s3⟩ := S
  rw [hk] at s2 s3
  rw [List.pairwise_append, List.pairwise_append] at s3
  obtain ⟨p1, ⟨p2, p5, p4⟩, p3⟩ := s3
  have far : ∀ v, v ∈ K1 ∨ v ∈ K2 → ∀ x ∈ ownM h v, ¬ ((x ∈ own1 t ∨ ∃ u ∈ U, x ∈ ownM h u) ∨ H x = none) := fun v hv x hx hh => by
    have hv' : v ∈ K1 ++ (U ++ K2) := by rcases hv with hv | hv <;> simp [hv]
    rcases hh with (h1 | ⟨u, hu, h1⟩) | h1
    · exact (s2 v hv').2 x hx h1
    · rcases hv with hv | hv
      · exact p3 v hv u (List.mem_append_left _ hu) x hx h1
      · exact p4 u hu v hv x h1 hx
    · exact hlive x (own_mem.2 (.inr ⟨v, by rw [hk]; exact hv', hx⟩)) h1
  refine ⟨ho, fun v hv => ?_, ?_⟩
  · rw [ht] at hv
    have old : v ∈ K1 ∨ v ∈ K2 → SepM h v ∧ ∀ x ∈ ownM h v, x ∉ own1 t' := fun hv => ⟨(s2 v (by rcases hv with hv | hv <;> simp [hv])).1, fun x hx ho' => far v hv x hx (hoq x ho').1⟩
    rcases List.mem_append.1 hv with hv | hv
    · exact old (.inl hv)
    · rcases List.mem_append.1 hv with hv | hv
      · exact ⟨hL v hv, fun x hx ho' => (hoq x ho').2 v hv hx⟩
      · exact old (.inr hv)
  · rw [ht, List.pairwise_append, List.pairwise_append]
    refine ⟨p1, ⟨hLp, p5, fun v hv w hw x hx hxw => far w (.inr hw) x hxw (hLn v hv x hx)⟩, fun v hv w hw => ?_⟩
    rcases List.mem_append.1 hw with hw | hw
    · exact fun x hx hxw => far v (.inl hv) x hx (hLn w hw x hxw)
    · exact p3 v hv w (List.mem_append_right _ hw)
/-- What comes of a node and two kids of it. -/
theorem two_done (M : MemM H0 (h + 1) t) (S : SepM (h + 1) t) (hk : t.ks = K1 ++ ([p, q] ++ K2)) (T : Tri H0 H (own1 t ++ own1 p ++ own1 q) t' p' q') (hL : L = [p', q'] ∨ L = [p']) (hLk : L.flatMap MT.ks = p.ks ++ q.ks) (ht : t'.ks = K1 ++ (L ++ K2)) :
    MemM H (h + 1) t' ∧ SepM (h + 1) t' ∧ FrM H0 H (ownM (h + 1) t) (ownM (h + 1) t') := by
  obtain ⟨s1, s2, s3⟩ := id S
  have live := M.live
  have hp : p ∈ t.ks := by rw [hk]; simp
  have hq : q ∈ t.ks := by rw [hk]; simp
  have hpq : Apart h p q := by
    rw [hk, List.pairwise_append, List.pairwise_append] at s3
    have := s3.2.1.1
    rw [List.pairwise_cons] at this
    exact this.1 q (by simp)
  have oO : ∀ x, x ∈ own1 t ++ own1 p ++ own1 q → x ∈ own1 t ∨ x ∈ ownM h p ∨ x ∈ ownM h q := fun x hx => by
    simp only [List.mem_append] at hx
    rcases hx with (hx | hx) | hx
    · exact .inl hx
    · exact .inr (.inl (own1_sub hx))
    · exact .inr (.inr (own1_sub hx))
  have other : ∀ v, v ∈ K1 ∨ v ∈ K2 → v ∈ t.ks ∧ ∀ x ∈ ownM h v, x ∉ own1 t ++ own1 p ++ own1 q := fun v hv => by
    have hvt : v ∈ t.ks := by rw [hk]; rcases hv with hv | hv <;> simp [hv]
    have hsep : (∀ x ∈ ownM h v, x ∉ ownM h p) ∧ ∀ x ∈ ownM h v, x ∉ ownM h q := by
      rw [hk, List.pairwise_append, List.pairwise_append] at s3
      obtain ⟨_, ⟨_, _, p4⟩, p3⟩ := s3
      rcases hv with hv | hv
      · exact ⟨p3 v hv p (by simp), p3 v hv q (by simp)⟩
      · exact ⟨fun x hx h1 => p4 p (by simp) v hv x h1 hx, fun x hx h1 => p4 q (by simp) v hv x h1 hx⟩
    refine ⟨hvt, fun x hx ho => ?_⟩
    rcases oO x ho with h1 | h1 | h1
    · exact (s2 v hvt).2 x hx h1
    · exact hsep.1 x hx h1
    · exact hsep.2 x hx h1
  have off : ∀ x, x ∉ own1 t ++ own1 p ++ own1 q → H0 x ≠ none → H x = H0 x := fun x hx hn => T.fr.off hx hn
  -- the kids' kids
  have grand : ∀ (h' : Nat), h = h' + 1 → (∀ w ∈ p.ks ++ q.ks, MemM H0 h' w ∧ SepM h' w ∧ ∀ x ∈ ownM h' w, x ∉ own1 t ++ own1 p ++ own1 q) ∧ (p.ks ++ q.ks).Pairwise (Apart h') := fun h' e => by
    subst e
    obtain ⟨_, a2, a3⟩ := (s2 p hp).1
    obtain ⟨_, b2, b3⟩ := (s2 q hq).1
    refine ⟨fun w hw => ?_, List.pairwise_append.2 ⟨a3, b3, fun v hv w hw x h1 h2 => hpq x (own_mem.2 (.inr ⟨v, hv, h1⟩)) (own_mem.2 (.inr ⟨w, hw, h2⟩))⟩⟩
    rcases List.mem_append.1 hw with hw | hw
    · refine ⟨(M.2 p hp).2 w hw, (a2 w hw).1, fun x hx ho => ?_⟩
      have hxp : x ∈ ownM (h' + 1) p := own_mem.2 (.inr ⟨w, hw, hx⟩)
      simp only [List.mem_append] at ho
      rcases ho with (ho | ho) | ho
      · exact (s2 p hp).2 x hxp ho
      · exact (a2 w hw).2 x hx ho
      · exact hpq x hxp (own1_sub ho)
    · refine ⟨(M.2 q hq).2 w hw, (b2 w hw).1, fun x hx ho => ?_⟩
      have hxq : x ∈ ownM (h' + 1) q := own_mem.2 (.inr ⟨w, hw, hx⟩)
      simp only [List.mem_append] at ho
      rcases ho with (ho | ho) | ho
      · exact (s2 q hq).2 x hxq ho
      · exact hpq x (own1_sub ho) hxq
      · exact (b2 w hw).2 x hx ho
  have leaf : h = 0 → p.ks = [] ∧ q.ks = [] := fun e => by subst e; exact ⟨(M.2 p hp).2, (M.2 q hq).2⟩
  have inL : ∀ v ∈ L, ∀ w ∈ v.ks, w ∈ p.ks ++ q.ks := fun v hv w hw => by rw [← hLk]; exact List.mem_flatMap.2 ⟨v, hv, hw⟩
  have LT : ∀ v ∈ L, NodeM H v ∧ (own1 v).Nodup ∧ ∀ x ∈ own1 v, x ∈ own1 t' ++ own1 p' ++ own1 q' := fun v hv => by
    have hv : v = p' ∨ v = q' := by
      rcases hL with e | e
      · rw [e] at hv; simpa using hv
      · rw [e] at hv; exact .inl (by simpa using hv)
    rcases hv with rfl | rfl
    · exact ⟨T.nb, T.ndb, fun x hx => by simp [hx]⟩
    · exact ⟨T.nc, T.ndc, fun x hx => by simp [hx]⟩
  have nwO : ∀ x ∈ own1 t' ++ own1 p' ++ own1 q', x ∈ own1 t ++ own1 p ++ own1 q ∨ H0 x = none := T.fr.nw
  have grandOff : ∀ (h' : Nat), h = h' + 1 → ∀ w ∈ p.ks ++ q.ks, ∀ x ∈ ownM h' w, x ∉ own1 t' ++ own1 p' ++ own1 q' := fun h' e w hw x hx ho => by
    obtain ⟨g1, g2, g3⟩ := (grand h' e).1 w hw
    rcases nwO x ho with h1 | h1
    · exact g3 x hx h1
    · exact g1.live x hx h1
  have memL : ∀ v ∈ L, MemM H h v := fun v hv => by
    cases h with
    | zero =>
      refine ⟨(LT v hv).1, ?_⟩
      obtain ⟨e1, e2⟩ := leaf rfl
      cases hvk : v.ks with
      | nil => rfl
      | cons w r =>
        have := inL v hv w (by rw [hvk]; simp)
        rw [e1, e2] at this; simp at this
    | succ h' =>
      refine ⟨(LT v hv).1, fun w hw => ?_⟩
      obtain ⟨g1, g2, g3⟩ := (grand h' rfl).1 w (inL v hv w hw)
      exact g1.keep fun x hx => off x (g3 x hx) (g1.live x hx)
  have subL : ∀ v ∈ L, v.ks.Sublist (p.ks ++ q.ks) := fun v hv => by
    rw [← hLk]
    rcases hL with e | e <;> rw [e] at hv ⊢ <;> simp at hv
    · rcases hv with rfl | rfl
      · simp
      · simp
    · subst hv; simp
  have sepL : ∀ v ∈ L, SepM h v := fun v hv => by
    cases h with
    | zero => exact (LT v hv).2.1
    | succ h' =>
      refine ⟨(LT v hv).2.1, fun w hw => ⟨((grand h' rfl).1 w (inL v hv w hw)).2.1, fun x hx h1 => grandOff h' rfl w (inL v hv w hw) x hx ((LT v hv).2.2 x h1)⟩, (grand h' rfl).2.sublist (subL v hv)⟩
  have ownL : ∀ v ∈ L, ∀ x ∈ ownM h v, x ∈ own1 v ∨ ∃ h', h = h' + 1 ∧ ∃ w ∈ v.ks, x ∈ ownM h' w := fun v hv x hx => by
    cases h with
    | zero => exact .inl hx
    | succ h' => exact (own_mem.1 hx).imp id fun hw => ⟨h', rfl, hw⟩
  have oU : ∀ x, x ∈ own1 t ++ own1 p ++ own1 q → x ∈ own1 t ∨ ∃ u ∈ [p, q], x ∈ ownM h u := fun x hx => by
    rcases oO x hx with h1 | h1 | h1
    · exact .inl h1
    · exact .inr ⟨p, by simp, h1⟩
    · exact .inr ⟨q, by simp, h1⟩
  have newL : ∀ v ∈ L, ∀ x ∈ ownM h v, (x ∈ own1 t ∨ ∃ u ∈ [p, q], x ∈ ownM h u) ∨ H0 x = none := fun v hv x hx => by
    rcases ownL v hv x hx with h1 | ⟨h', e, w, hw, h1⟩
    · exact (nwO x ((LT v hv).2.2 x h1)).imp (oU x) id
    · subst e
      rcases List.mem_append.1 (inL v hv w hw) with h2 | h2
      · exact .inl (.inr ⟨p, by simp, own_mem.2 (.inr ⟨w, h2, h1⟩)⟩)
      · exact .inl (.inr ⟨q, by simp, own_mem.2 (.inr ⟨w, h2, h1⟩)⟩)
  have nd := T.nd
  rw [List.append_assoc, List.nodup_append, List.nodup_append] at nd
  obtain ⟨nd1', ⟨nd2, nd3, nd4⟩, nd5⟩ := nd
  have pq' : Apart h p' q' ∨ L = [p'] := by
    rcases hL with e | e
    · left
      intro x h1 h2
      rcases ownL p' (by rw [e]; simp) x h1 with h3 | ⟨h', e', w, hw, h3⟩
      · rcases ownL q' (by rw [e]; simp) x h2 with h4 | ⟨h', e', w, hw, h4⟩
        · exact nd4 x h3 x h4 rfl
        · exact grandOff h' e' w (inL q' (by rw [e]; simp) w hw) x h4 (by simp [h3])
      · subst e'
        rcases ownL q' (by rw [e]; simp) x h2 with h4 | ⟨h'', e'', w', hw', h4⟩
        · exact grandOff h' rfl w (inL p' (by rw [e]; simp) w hw) x h3 (by simp [h4])
        · cases e''
          have gp := (grand h' rfl).2
          rw [← hLk, e] at gp
          simp only [List.flatMap_cons, List.flatMap_nil, List.append_nil] at gp
          rw [List.pairwise_append] at gp
          exact gp.2.2 w hw w' hw' x h3 h4
    · exact .inr e
  have hLp : L.Pairwise (Apart h) := by
    rcases pq' with h1 | h1
    · rcases hL with e | e
      · rw [e]; simp [h1]
      · rw [e]; simp
    · rw [h1]; simp
  have tL : ∀ x ∈ own1 t', ∀ v ∈ L, x ∉ ownM h v := fun x hx v hv h1 => by
    rcases ownL v hv x h1 with h2 | ⟨h', e', w, hw, h2⟩
    · have hv' : v = p' ∨ v = q' := by
        rcases hL with e | e
        · rw [e] at hv; simpa using hv
        · rw [e] at hv; exact .inl (by simpa using hv)
      rcases hv' with rfl | rfl
      · exact nd5 x hx x (List.mem_append_left _ h2) rfl
      · exact nd5 x hx x (List.mem_append_right _ h2) rfl
    · exact grandOff h' e' w (inL v hv w hw) x h2 (by simp [hx])
  have inO : ∀ x, (x ∈ own1 t ∨ ∃ u ∈ [p, q], x ∈ ownM h u) → x ∈ ownM (h + 1) t := fun x hx => by
    rcases hx with h1 | ⟨u, hu, h1⟩
    · exact own_mem.2 (.inl h1)
    · refine own_mem.2 (.inr ⟨u, ?_, h1⟩)
      rw [hk]
      simp only [List.mem_append]
      exact .inr (.inl hu)
  refine ⟨⟨T.na, fun v hv => ?_⟩, sep_some (U := [p, q]) S hk live sepL hLp newL ht nd1' fun x hx => ⟨(nwO x (by simp [hx])).imp (oU x) id, tL x hx⟩, fun x hx => ?_, fun x hx => ?_, T.fr.al⟩
  · rw [ht] at hv
    have old : v ∈ K1 ∨ v ∈ K2 → MemM H h v := fun hv => (M.2 v (other v hv).1).keep fun x hx => off x ((other v hv).2 x hx) ((M.2 v (other v hv).1).live x hx)
    rcases List.mem_append.1 hv with hv | hv
    · exact old (.inl hv)
    · rcases List.mem_append.1 hv with hv | hv
      · exact memL v hv
      · exact old (.inr hv)
  · exact (T.fr.ch x hx).imp (fun h1 => inO x (oU x h1)) id
  · rcases own_mem.1 hx with h1 | ⟨v, hv, h1⟩
    · exact (nwO x (by simp [h1])).imp (fun h1 => inO x (oU x h1)) id
    · rw [ht] at hv
      rcases List.mem_append.1 hv with hv | hv
      · exact .inl (own_mem.2 (.inr ⟨v, (other v (.inl hv)).1, h1⟩))
      · rcases List.mem_append.1 hv with hv | hv
        · exact (newL v hv x h1).imp (inO x) id
        · exact .inl (own_mem.2 (.inr ⟨v, (other v (.inr hv)).1, h1⟩))
end
end Go.Proofs.YtmelbipidffmpaaGreatDoor.Hw

/- What two kids and the entry between hold, plain. -/
set_option linter.unusedVariables false
set_option linter.unusedSimpArgs false
set_option linter.unusedSectionVars false
set_option maxRecDepth 20000
namespace Go.Proofs.YtmelbipidffmpaaGreatDoor.Hw
open Go Go.Proofs
section
variable {h : Nat} {t t' p q p' q' : MT} {K1 K2 : List MT} {E1 E2 : List EnM} {s s' x : EnM}
theorem flat_pair (hk : t.ks = K1 ++ ([p, q] ++ K2)) (he : t.es = E1 ++ s :: E2) (hl : K1.length = E1.length) : flatM (h + 1) t = zipE (K1.map (flatM h)) E1 ++ ((flatM h p ++ s :: flatM h q) ++ restE (K2.map (flatM h)) E2) := by
  show inter (t.ks.map (flatM h)) t.es = _
  rw [hk, he, List.map_append, inter_app (by rw [List.length_map]; exact hl)]
  show _ ++ (flatM h p ++ s :: inter ((q :: K2).map (flatM h)) E2) = _
  rw [List.map_cons, inter_head]
  simp
theorem flat_one (hk : t.ks = K1 ++ ([p] ++ K2)) (he : t.es = E1 ++ E2) (hl : K1.length = E1.length) : flatM (h + 1) t = zipE (K1.map (flatM h)) E1 ++ (flatM h p ++ restE (K2.map (flatM h)) E2) := by
  show inter (t.ks.map (flatM h)) t.es = _
  rw [hk, he, List.map_append, inter_app (by rw [List.length_map]; exact hl)]
  show _ ++ inter (flatM h p :: K2.map (flatM h)) E2 = _
  rw [inter_head]
/-- The last entry, and the last kid, of the left one go over. -/
theorem flat_left {Pe : List EnM} {Pk : List MT} {z : MT} (e1 : p.es = Pe ++ [x]) (e2 : p'.es = Pe) (e3 : q'.es = s :: q.es) (hz : h = 0 ∨ (p.ks = Pk ++ [z] ∧ Pk.length = Pe.length + 1 ∧ p'.ks = Pk ∧ q'.ks = z :: q.ks)) :
    flatM h p' ++ x :: flatM h q' = flatM h p ++ s :: flatM h q := by
  cases h with
  | zero =>
    show p'.es ++ x :: q'.es = p.es ++ s :: q.es
    rw [e1, e2, e3]; simp
  | succ h =>
    obtain ⟨k1, k2, k3, k4⟩ := hz.resolve_left (by omega)
    show inter (p'.ks.map (flatM h)) p'.es ++ x :: inter (q'.ks.map (flatM h)) q'.es = inter (p.ks.map (flatM h)) p.es ++ s :: inter (q.ks.map (flatM h)) q.es
    rw [k3, k4, k1, e1, e2, e3, List.map_append, List.map_cons, inter_mid (by rw [List.length_map]; exact k2)]
    simp [inter]
/-- The first entry, and the first kid, of the right one go over. -/
theorem flat_right {Qe : List EnM} {Qk : List MT} {z : MT} (e1 : q.es = x :: Qe) (e2 : q'.es = Qe) (e3 : p'.es = p.es ++ [s]) (hz : h = 0 ∨ (q.ks = z :: Qk ∧ p.ks.length = p.es.length + 1 ∧ q'.ks = Qk ∧ p'.ks = p.ks ++ [z])) :
    flatM h p' ++ x :: flatM h q' = flatM h p ++ s :: flatM h q := by
  cases h with
  | zero =>
    show p'.es ++ x :: q'.es = p.es ++ s :: q.es
    rw [e1, e2, e3]; simp
  | succ h =>
    obtain ⟨k1, k2, k3, k4⟩ := hz.resolve_left (by omega)
    show inter (p'.ks.map (flatM h)) p'.es ++ x :: inter (q'.ks.map (flatM h)) q'.es = inter (p.ks.map (flatM h)) p.es ++ s :: inter (q.ks.map (flatM h)) q.es
    rw [k3, k4, k1, e1, e2, e3, List.map_append, List.map_cons, inter_mid (by rw [List.length_map]; exact k2)]
    simp [inter]
/-- Both, and the entry between, in one. -/
theorem flat_both (e1 : p'.es = p.es ++ s :: q.es) (hz : h = 0 ∨ (p.ks.length = p.es.length + 1 ∧ p'.ks = p.ks ++ q.ks)) : flatM h p' = flatM h p ++ s :: flatM h q := by
  cases h with
  | zero => exact e1
  | succ h =>
    obtain ⟨k2, k3⟩ := hz.resolve_left (by omega)
    show inter (p'.ks.map (flatM h)) p'.es = inter (p.ks.map (flatM h)) p.es ++ s :: inter (q.ks.map (flatM h)) q.es
    rw [k3, e1, List.map_append, inter_mid (by rw [List.length_map]; exact k2)]
theorem full_of {lo : Nat} (h0 : h = 0 → t.ks = []) (hk : ∀ h', h = h' + 1 → t.ks.length = t.es.length + 1 ∧ ∀ v ∈ t.ks, FullM 3 8 h' v) (h1 : lo ≤ t.es.length) (h2 : t.es.length ≤ 8) : FullM lo 8 h t := by
  cases h with
  | zero => exact ⟨h0 rfl, h1, h2⟩
  | succ h => exact ⟨(hk h rfl).1, h1, h2, (hk h rfl).2⟩
theorem full_kids {lo hi : Nat} (F : FullM lo hi h t) : (h = 0 → t.ks = []) ∧ ∀ h', h = h' + 1 → t.ks.length = t.es.length + 1 ∧ ∀ v ∈ t.ks, FullM 3 8 h' v := by
  cases h with
  | zero => exact ⟨fun _ => F.1, fun h' e => by omega⟩
  | succ h => exact ⟨fun e => by omega, fun h' e => by cases e; exact ⟨F.1, F.2.2.2⟩⟩
end
end Go.Proofs.YtmelbipidffmpaaGreatDoor.Hw

/- Nodes: an entry goes over from the left, from the right. -/
set_option linter.unusedVariables false
set_option linter.unusedSimpArgs false
set_option linter.unusedSectionVars false
set_option maxRecDepth 20000
namespace Go.Proofs.YtmelbipidffmpaaGreatDoor.Hw
open Go Go.Proofs
theorem onPtr_at {b o : Nat} {K : Nat → Nat → Prop} : onPtr (some ⟨b, o, none⟩) K = K b o := rfl
theorem get_last {α : Type} {l : List α} {x : α} : (l ++ [x])[l.length]? = some x := by simp
section
variable {H0 H : Hp} {O : List Nat} {t p q : MT} {j : Nat} {s x : EnM} {Q : Value → Hp → Prop}
theorem c103 {Pe : List EnM} (T : Tri H0 H O t p q) (hp : t.ks[j]? = some p) (hq' : t.ks[j + 1]? = some q) (hs : t.es[j]? = some s) (hx : p.es = Pe ++ [x]) (hk : p.ks = [] ∨ ∃ Pk z, p.ks = Pk ++ [z] ∧ Pk.length = Pe.length + 1)
    (b1 : t.es.length < 900) (b2 : t.ks.length < 900) (b3 : p.es.length < 900) (b4 : q.es.length < 900) (b5 : q.ks.length < 900)
    (hq : ∀ H' t' p' q', Tri H0 H' O t' p' q' → t'.g = t.g → t'.ks = t.ks → t'.es = t.es.set j x → p'.g = p.g → p'.es = Pe → q'.g = q.g → q'.es = s :: q.es →
      ((p.ks = [] ∧ p'.ks = [] ∧ q'.ks = q.ks) ∨ ∃ Pk z, p.ks = Pk ++ [z] ∧ Pk.length = Pe.length + 1 ∧ p'.ks = Pk ∧ q'.ks = z :: q.ks) → Q (.tuple #[]) H') :
    HCalls Tryz.prog 103 [.pointer (some ⟨t.g, 0, none⟩), .int .i64 ((j + 1 : Nat) : Int)] H Q := by
  have jt := (List.getElem?_eq_some_iff.1 hp).1
  have jt' := (List.getElem?_eq_some_iff.1 hq').1
  have je := (List.getElem?_eq_some_iff.1 hs).1
  have pl : p.es.length = Pe.length + 1 := by rw [hx]; simp
  have ew : IntKind.i64.wrap (((j + 1 : Nat) : Int) - 1) = (j : Int) := by rw [wrap_id (by omega) (by omega)]; omega
  have em : IntKind.i64.wrap (((p.es.length : Nat) : Int) - 1) = ((Pe.length : Nat) : Int) := by rw [wrap_id (by omega) (by omega)]; omega
  have em1 : IntKind.i64.wrap (((Pe.length : Nat) : Int) + 1) = ((Pe.length + 1 : Nat) : Int) := by rw [wrap_id (by omega) (by omega)]; omega
  refine f103.ok _ _ _ ?_
  unfold f103
  rw [ew]
  refine ⟨_, _, _, T.na.cl1, by omega, by omega, rd_pt (T.na.ksAt (by unfold huge; omega)) hp fun q1 o1 _ kp => ⟨_, by simpa using kp, _, _, _, T.na.cl1, by omega, by omega, rd_pt (T.na.ksAt (by unfold huge; omega)) hq' fun q2 o2 _ kq => ⟨_, by simpa using kq, onPtrI ⟨_, _, _, T.nb.cl0, onPtrI ⟨_, _, _, T.nc.cl0, _, _, _, T.na.cl0, by omega, by omega, rd_en (T.na.esAt (by unfold huge; omega)) hs fun q3 o3 _ k1 k2 => ⟨_, _, _, by simpa using k1, _, by simpa using k2, ?_⟩⟩⟩⟩⟩⟩
  rw [em, em1]
  simp only [onPtr_at, Int.toNat_natCast]
  refine insE (i := 0) T.nc T.ndc (Nat.zero_le _) (by omega) fun H21 A21 c21 N21 nd21 F21 => ?_
  have T1 := T.put3 N21 nd21 F21
  have hxm : p.es[Pe.length]? = some x := by rw [hx]; exact get_last
  refine ⟨_, _, _, T1.na.cl0, _, _, _, T1.nb.cl0, by omega, by omega, rd_en (T1.nb.esAt (by unfold huge; omega)) hxm fun q4 o4 _ k1 k2 => ⟨_, _, _, by simpa using k1, _, by simpa using k2, by omega, by omega, ?_⟩⟩
  refine writeE (x := x) T1.na T1.nda je fun H29 N29 nd29 F29 => ?_
  have T2 := T1.put1 N29 nd29 F29
  have hle := T2.nb.er.le
  refine ⟨_, _, _, T2.nb.cl0, by omega, by omega, ?_⟩
  simp only [cut_zero, Nat.sub_zero]
  refine cutE (t := p) T2.nb T2.ndb (m := Pe.length) (by omega) fun H33 N33 nd33 F33 => ?_
  have T3 := T2.put2 N33 nd33 F33
  have eP : p.es.take Pe.length = Pe := by rw [hx, List.take_left' rfl]
  refine ⟨_, _, _, T3.nb.cl1, ?_⟩
  rcases hk with hk | ⟨Pk, z, hk, hkl⟩
  · refine cndF ?_ (hq H33 _ _ _ T3 rfl rfl rfl rfl eP rfl (by simp [MT.es]) (.inl ⟨hk, hk, rfl⟩))
    show decide (((p.ks.length : Nat) : Int) > 0) = false
    rw [hk]; rfl
  · have hkn : p.ks.length = Pe.length + 2 := by rw [hk]; simp; omega
    have hzm : p.ks[Pe.length + 1]? = some z := by rw [hk, ← hkl]; exact get_last
    refine cndT (decide_eq_true (by show ((p.ks.length : Nat) : Int) > 0; omega)) ⟨_, _, _, T3.nc.cl1, _, _, _, T3.nb.cl1, by omega, by show ((Pe.length + 1 : Nat) : Int) < ((p.ks.length : Nat) : Int); omega, rd_pt (T3.nb.ksAt (by show p.ks.length < huge; unfold huge; omega)) hzm fun q5 o5 _ kz => ⟨_, by simpa using kz, ?_⟩⟩
    refine insK (v := z) (i := 0) T3.nc T3.ndc (Nat.zero_le _) (by show q.ks.length < 1000; omega) fun H48 A48 c48 N48 nd48 F48 => ?_
    have T4 := T3.put3 N48 nd48 F48
    have hle4 := T4.nb.kr.le
    have hle4 : p.ks.length ≤ p.kc := hle4
    refine ⟨_, _, _, T4.nb.cl1, by omega, by show ((Pe.length + 1 : Nat) : Int) ≤ ((p.kc : Nat) : Int); omega, ?_⟩
    refine cutK (t := .mk p.g p.eA p.ec (p.es.take Pe.length) p.kA p.kc p.ks) T4.nb T4.ndb (m := Pe.length + 1) (by show Pe.length + 1 ≤ p.ks.length; omega) fun H52 N52 nd52 F52 => ?_
    have T5 := T4.put2 N52 nd52 F52
    exact hq H52 _ _ _ T5 rfl rfl rfl rfl eP rfl (by simp [MT.es]) (.inr ⟨Pk, z, hk, hkl, by show p.ks.take (Pe.length + 1) = Pk; rw [hk, ← hkl, List.take_left' rfl], by simp [MT.ks]⟩)
theorem c104 {Qe : List EnM} (T : Tri H0 H O t p q) (hp : t.ks[j]? = some p) (hq' : t.ks[j + 1]? = some q) (hs : t.es[j]? = some s) (hx : q.es = x :: Qe) (b0 : 1 ≤ Qe.length) (hk : q.ks = [] ∨ ∃ z Qk, q.ks = z :: Qk ∧ 1 ≤ Qk.length)
    (b1 : t.es.length < 900) (b2 : t.ks.length < 900) (b3 : p.es.length < 900) (b4 : q.es.length < 900) (b5 : p.ks.length < 900) (b6 : q.ks.length < 900)
    (hq : ∀ H' t' p' q', Tri H0 H' O t' p' q' → t'.g = t.g → t'.ks = t.ks → t'.es = t.es.set j x → p'.g = p.g → p'.es = p.es ++ [s] → q'.g = q.g → q'.es = Qe →
      ((q.ks = [] ∧ q'.ks = [] ∧ p'.ks = p.ks) ∨ ∃ z Qk, q.ks = z :: Qk ∧ q'.ks = Qk ∧ p'.ks = p.ks ++ [z]) → Q (.tuple #[]) H') :
    HCalls Tryz.prog 104 [.pointer (some ⟨t.g, 0, none⟩), .int .i64 ((j : Nat) : Int)] H Q := by
  have jt := (List.getElem?_eq_some_iff.1 hp).1
  have jt' := (List.getElem?_eq_some_iff.1 hq').1
  have je := (List.getElem?_eq_some_iff.1 hs).1
  have ql : q.es.length = Qe.length + 1 := by rw [hx]; simp
  have ew : IntKind.i64.wrap (((j : Nat) : Int) + 1) = ((j + 1 : Nat) : Int) := by rw [wrap_id (by omega) (by omega)]; omega
  refine f104.ok _ _ _ ?_
  unfold f104
  rw [ew]
  refine ⟨_, _, _, T.na.cl1, by omega, by omega, rd_pt (T.na.ksAt (by unfold huge; omega)) hp fun q1 o1 _ kp => ⟨_, by simpa using kp, _, _, _, T.na.cl1, by omega, by omega, rd_pt (T.na.ksAt (by unfold huge; omega)) hq' fun q2 o2 _ kq => ⟨_, by simpa using kq, onPtrI ⟨_, _, _, T.nb.cl0, _, _, _, T.na.cl0, by omega, by omega, rd_en (T.na.esAt (by unfold huge; omega)) hs fun q3 o3 _ k1 k2 => ⟨_, _, _, by simpa using k1, _, by simpa using k2, ?_⟩⟩⟩⟩⟩
  simp only [onPtr_at, Int.toNat_natCast]
  refine apE (e := s) T.nb T.ndb (by omega) fun H18 A18 c18 N18 nd18 F18 => ?_
  have T1 := T.put2 N18 nd18 F18
  have hxm : q.es[0]? = some x := by rw [hx]; rfl
  refine ⟨_, _, _, T1.na.cl0, _, _, _, T1.nc.cl0, by omega, by omega, rd_en (T1.nc.esAt (by unfold huge; omega)) hxm fun q4 o4 _ k1 k2 => ⟨_, _, _, by simpa using k1, _, by simpa using k2, by omega, by omega, ?_⟩⟩
  refine writeE (x := x) T1.na T1.nda je fun H26 N26 nd26 F26 => ?_
  have T2 := T1.put1 N26 nd26 F26
  refine ⟨_, _, _, T2.nc.cl0, by omega, by omega, ?_⟩
  refine dropE (p := 1) T2.nc T2.ndc (by omega) fun H30 A30 c30 N30 nd30 F30 => ?_
  have T3 := T2.put3 N30 nd30 F30
  have eQ : q.es.drop 1 = Qe := by rw [hx]; rfl
  refine ⟨_, _, _, T3.nc.cl1, ?_⟩
  rcases hk with hk | ⟨z, Qk, hk, hk1⟩
  · refine cndF ?_ (hq H30 _ _ _ T3 rfl rfl rfl rfl rfl rfl eQ (.inl ⟨hk, hk, rfl⟩))
    show decide (((q.ks.length : Nat) : Int) > 0) = false
    rw [hk]; rfl
  · have hkn : q.ks.length = Qk.length + 1 := by rw [hk]; simp
    have hzm : q.ks[0]? = some z := by rw [hk]; rfl
    refine cndT (decide_eq_true (by show ((q.ks.length : Nat) : Int) > 0; omega)) ⟨_, _, _, T3.nb.cl1, _, _, _, T3.nc.cl1, by omega, by show (0 : Int) < ((q.ks.length : Nat) : Int); omega, rd_pt (T3.nc.ksAt (by show q.ks.length < huge; unfold huge; omega)) hzm fun q5 o5 _ kz => ⟨_, by simpa using kz, ?_⟩⟩
    refine apK (v := z) T3.nb T3.ndb (by show p.ks.length < 1000; omega) fun H44 A44 c44 N44 nd44 F44 => ?_
    have T4 := T3.put2 N44 nd44 F44
    refine ⟨_, _, _, T4.nc.cl1, by omega, by show (1 : Int) ≤ ((q.ks.length : Nat) : Int); omega, ?_⟩
    refine dropK (t := .mk q.g A30 c30 (q.es.drop 1) q.kA q.kc q.ks) (p := 1) T4.nc T4.ndc (by show 1 < q.ks.length; omega) fun H48 A48 c48 N48 nd48 F48 => ?_
    have T5 := T4.put3 N48 nd48 F48
    exact hq H48 _ _ _ T5 rfl rfl rfl rfl rfl rfl eQ (.inr ⟨z, Qk, hk, by show q.ks.drop 1 = Qk; rw [hk]; rfl, rfl⟩)
end
end Go.Proofs.YtmelbipidffmpaaGreatDoor.Hw

/- What functions of the program come to, by the evaluator: printed by a program of this session (gen.py) and checked here. -/
set_option linter.unusedVariables false
set_option maxRecDepth 100000
namespace Go.Proofs.YtmelbipidffmpaaGreatDoor.Hw
open Go Go.Proofs

/-- slices.Concat[[]justiciar api.Entry,justiciar api.Entry] -/
def f124 (pslices_A : Option Addr) (pslices_n pslices_c : Nat) (H : Hp) (Q : Value → Hp → Prop) : Prop :=
  LoopF (σ := (Int × (Int × Unit)) × Unit) ((0, (0, ())), ()) H fun s1 H2 next3 => cnd (decide ((s1.1.2.1 : Int) < ((pslices_n : Nat) : Int))) (0 ≤ (s1.1.2.1 : Int) ∧ (s1.1.2.1 : Int) < ((pslices_n : Nat) : Int) ∧ onPtr
    pslices_A fun b4 o4 => ∃ (A5 : Option Addr) (n5 c5 : Nat), cl H2 b4 (o4 + (s1.1.2.1 : Int).toNat * 1) = some (.slice A5 n5 c5) ∧ cnd (decide ((IntKind.i64.wrap (s1.1.1 + ((n5 : Nat) : Int)) : Int) < 0)) (False) (KeepX
    [some (.v (.slice pslices_A pslices_n pslices_c)), some (.v (.slice pslices_A pslices_n pslices_c)), some (.v (.int .i64 ((pslices_n : Nat) : Int)))] [] ∧ next3 ((IntKind.i64.wrap (s1.1.1 + ((n5 : Nat) : Int)),
    (IntKind.i64.wrap (s1.1.2.1 + 1), ())), ()) H2)) (HCalls Tryz.prog 137 [.slice none 0 0, .int .i64 s1.1.1] H2 fun v6 H7 => ∃ (A8 : Option Addr) (n8 c8 : Nat), v6 = .slice A8 n8 c8 ∧ LoopF (σ := ((Option Addr × Nat ×
    Nat) × (Int × Unit)) × Unit) (((A8, n8, c8), (0, ())), ()) H7 fun s9 H10 next11 => cnd (decide ((s9.1.2.1 : Int) < ((pslices_n : Nat) : Int))) (0 ≤ (s9.1.2.1 : Int) ∧ (s9.1.2.1 : Int) < ((pslices_n : Nat) : Int) ∧
    onPtr pslices_A fun b12 o12 => ∃ (A13 : Option Addr) (n13 c13 : Nat), cl H10 b12 (o12 + (s9.1.2.1 : Int).toNat * 1) = some (.slice A13 n13 c13) ∧ appendF H10 46 2 32 s9.1.1.1 s9.1.1.2.1 s9.1.1.2.2 A13 n13 fun A14 n14
    c14 H15 => KeepX [some (.v (.slice pslices_A pslices_n pslices_c)), some (.v (.int .i64 ((pslices_n : Nat) : Int)))] [] ∧ next11 (((A14, n14, c14), (IntKind.i64.wrap (s9.1.2.1 + 1), ())), ()) H15) (Q (.slice s9.1.1.1
    s9.1.1.2.1 s9.1.1.2.2) H10))
noncomputable def fcx124 : Cx := cx 36 [] [(3, ⟨[0, 9, 10], [], [(3, .int .i64), (11, .int .i64)], []⟩), (11, ⟨[25, 26], [], [(6, .slice), (27, .int .i64)], []⟩)] [] []
theorem f124.eq (pslices_A : Option Addr) (pslices_n pslices_c : Nat) (H : Hp) (Q : Value → Hp → Prop) : f124 pslices_A pslices_n pslices_c H Q = wFun fcx124 Tryz.f124 [.slice pslices_A pslices_n pslices_c] H Q := by kernel_rfl
theorem f124.ok (pslices_A : Option Addr) (pslices_n pslices_c : Nat) {H : Hp} {Q : Value → Hp → Prop} (h : f124 pslices_A pslices_n pslices_c H Q) : HCalls Tryz.prog 124 [.slice pslices_A pslices_n pslices_c] H Q := hcalls_of (cxOk _ _ _ _ _) Tryz.func124 (Eq.mp (f124.eq pslices_A pslices_n pslices_c H Q) h)

/-- slices.Grow[[]justiciar api.Entry,justiciar api.Entry] -/
def f137 (ps_A : Option Addr) (ps_n ps_c : Nat) (pn : Int) (H : Hp) (Q : Value → Hp → Prop) : Prop :=
  cnd (decide ((pn : Int) < 0)) (False) (jn (fun (jA3 : Option Addr) (jn4 : Nat) (jc5 : Nat) (H6 : Hp) => Q (.slice jA3 jn4 jc5) H6) fun J7 => cnd (decide ((IntKind.i64.wrap (pn - (IntKind.i64.wrap (((ps_c : Nat) : Int) -
    ((ps_n : Nat) : Int)))) : Int) > 0)) (0 ≤ (((ps_c : Nat) : Int) : Int) ∧ (((ps_c : Nat) : Int) : Int) ≤ ((ps_c : Nat) : Int) ∧ appendZF H 46 2 32 [.slice none 0 0, .int .i64 0] (cutA ps_A (0 * 2) (decide (ps_c = 0)))
    (((((ps_c : Nat) : Int) : Int).toNat) - 0) (ps_c - 0) (IntKind.i64.wrap (pn - (IntKind.i64.wrap (((ps_c : Nat) : Int) - ((ps_n : Nat) : Int))))) fun A1 n1 c1 H2 => 0 ≤ (((ps_n : Nat) : Int) : Int) ∧ (((ps_n : Nat) :
    Int) : Int) ≤ ((c1 : Nat) : Int) ∧ J7 (cutA A1 (0 * 2) (decide (c1 = 0))) (((((ps_n : Nat) : Int) : Int).toNat) - 0) (c1 - 0) H2) (J7 ps_A ps_n ps_c H))
noncomputable def fcx137 : Cx := cx 27 [] [] [] []
theorem f137.eq (ps_A : Option Addr) (ps_n ps_c : Nat) (pn : Int) (H : Hp) (Q : Value → Hp → Prop) : f137 ps_A ps_n ps_c pn H Q = wFun fcx137 Tryz.f137 [.slice ps_A ps_n ps_c, .int .i64 pn] H Q := by kernel_rfl
theorem f137.ok (ps_A : Option Addr) (ps_n ps_c : Nat) (pn : Int) {H : Hp} {Q : Value → Hp → Prop} (h : f137 ps_A ps_n ps_c pn H Q) : HCalls Tryz.prog 137 [.slice ps_A ps_n ps_c, .int .i64 pn] H Q := hcalls_of (cxOk _ _ _ _ _) Tryz.func137 (Eq.mp (f137.eq ps_A ps_n ps_c pn H Q) h)

end Go.Proofs.YtmelbipidffmpaaGreatDoor.Hw

/- Nodes grown out of blocks. -/
set_option linter.unusedVariables false
set_option linter.unusedSimpArgs false
set_option linter.unusedSectionVars false
set_option maxRecDepth 20000
namespace Go.Proofs.YtmelbipidffmpaaGreatDoor.Hw
open Go Go.Proofs
/-- A node under way: made of new blocks, its keys elsewhere. -/
structure GrowN (H H' : Hp) (h : Nat) (t : MT) : Prop where
  ext : Ext H H'
  node : NodeM H' t
  mem : ∀ u ∈ t.ks, MemM H' h u
  sep : SepM (h + 1) t
  hid : ∀ q ∈ ownM (h + 1) t, H q = none
  key : ∀ e, (e ∈ t.es ∨ ∃ u ∈ t.ks, e ∈ flatM h u) → KeyAt H' e ∧ (e.key ≠ [] → ∀ q, rowB e.A q → q ∉ ownM (h + 1) t)
section
variable {H H1 H2 : Hp} {h : Nat} {t u : MT}
theorem GrowN.live (G : GrowN H H1 h t) : ∀ q ∈ ownM (h + 1) t, H1 q ≠ none := fun q hq => by
  rcases own_mem.1 hq with h1 | ⟨u, hu, h1⟩
  · exact G.node.live q h1
  · exact (G.mem u hu).live q h1
theorem GrowN.more (G : GrowN H H1 h t) (hx : Ext H1 H2) : GrowN H H2 h t := ⟨G.ext.trans hx, G.node.ext hx, fun u hu => (G.mem u hu).ext hx, G.sep, G.hid, fun e he => ⟨(G.key e he).1.ext hx, (G.key e he).2⟩⟩
theorem KeyAt.off {H H' : Hp} {e : EnM} {O O' : List Nat} (h : KeyAt H e) (F : FrM H H' O O') (hk : e.key ≠ [] → ∀ q, rowB e.A q → q ∉ O) : KeyAt H' e := h.stay fun h0 q hq hn => F.off (hk h0 q hq) hn
/-- An entry behind the others. -/
theorem GrowN.pushE (G : GrowN H H1 h t) {e : EnM} (hk : KeyAt H1 e) (hf : e.key ≠ [] → ∀ q, rowB e.A q → q ∉ ownM (h + 1) t) (hs : t.es.length < 1000) {K : Hp → Prop}
    (hq : ∀ H' A' c', GrowN H H' h (.mk t.g A' c' (t.es ++ [e]) t.kA t.kc t.ks) → K H') :
    newF H1 46 (enC e) fun g16 H17 => appendF H17 46 2 32 t.eA t.es.length t.ec (some ⟨g16, 0, none⟩) 1 fun A18 n18 c18 H19 => storeF H19 t.g (0 + 0) [.slice A18 n18 c18] K := by
  intro g7 hg7
  have N := G.node
  have nd := G.sep.1
  obtain ⟨n1, n2, n3⟩ := nd1 nd
  have x8 : Ext H1 (upd g7 (.cells (enC e).toArray 46 (0, 0)) H1) := Ext.new hg7
  have N8 := N.ext x8
  refine N8.er.append (new := enC e) (cellsAt_one upd_at) rfl (enC_one e) (by unfold big; omega) (by omega) fun A' c' H10 R10 F10 _ => ?_
  have tl : H1 t.g ≠ none := N.live t.g (by simp [own1])
  have nA : ∀ q, rowB A' q → rowB t.eA q ∨ H1 q = none := fun q hq => (F10.nw q hq).imp id fun h => x8.none h
  have h1 : ¬ rowB A' t.g := fun h => by
    rcases nA _ h with h | h
    · exact n1 h
    · exact tl h
  have keep : ∀ q, ¬ rowB t.eA q → (upd g7 (.cells (enC e).toArray 46 (0, 0)) H1) q ≠ none → H10 q = (upd g7 (.cells (enC e).toArray 46 (0, 0)) H1) q := fun q hq hn => Classical.byContradiction fun hne => by
    rcases F10.ch q hne with h | h
    · exact hq h
    · exact hn h
  obtain ⟨ty, hc⟩ := N8.cell
  have hc10 : ∃ ty, H10 t.g = some (.cells (nodeC t.eA t.es.length t.ec t.kA t.ks.length t.kc).toArray ty (0, 0)) := ⟨ty, (keep _ n1 (by rw [hc]; simp)).trans hc⟩
  have k10 : RowO H10 t.kA t.ks.length t.kc 1 (t.ks.flatMap ptC) := N8.kr.keep fun q hq hn => keep q (fun h => n3 q h hq) hn
  have el : (t.es ++ [e]).length = t.es.length + 1 := by simp
  refine setE' hc10 k10 el.symm (by rw [el, List.flatMap_append]; simpa using R10) h1 n2 fun H12 N12 off lv => ?_
  obtain ⟨t', ht'⟩ : ∃ t' : MT, t' = .mk t.g A' c' (t.es ++ [e]) t.kA t.kc t.ks := ⟨_, rfl⟩
  rw [← ht'] at N12
  have ndt : (own1 t').Nodup := by
    rw [ht']
    exact nd_mk h1 n2 fun q hq hkq => by
      rcases nA q hq with h | h
      · exact n3 q h hkq
      · exact N.kr.live hkq h
  have Fr : FrM H1 H12 (own1 t) (own1 t') := ⟨fun q hq => by
    by_cases e1 : q = t.g
    · subst e1; exact .inl (by simp [own1])
    · rw [off q e1] at hq
      by_cases e2 : H10 q = (upd g7 (.cells (enC e).toArray 46 (0, 0)) H1) q
      · rw [e2] at hq
        exact .inr (Classical.byContradiction fun hn => hq (ext_at x8 hn))
      · rcases F10.ch q e2 with h | h
        · exact .inl (by simp [own1, blk_row, h])
        · exact .inr (x8.none h), fun q hq => by
    rw [ht'] at hq
    rcases List.mem_cons.1 hq with h | h
    · exact .inl (by rw [h]; simp [own1, MT.g])
    · rcases List.mem_append.1 h with h | h
      · rcases nA q (blk_row.1 h) with h | h
        · exact .inl (by simp [own1, blk_row, h])
        · exact .inr h
      · exact .inl (by simp only [own1, List.mem_cons, List.mem_append]; exact .inr (.inr h)), fun q hq => by
    by_cases e1 : q = t.g
    · subst e1; exact lv
    · rw [off q e1]
      exact F10.al q fun e => hq ((ext_at x8 hq).symm.trans e)⟩
  have hidO : ∀ q ∈ own1 t, H q = none := fun q hq => G.hid q (own_mem.2 (.inl hq))
  have kst : t'.ks = t.ks := by rw [ht']; rfl
  have owt : ∀ q ∈ ownM (h + 1) t', q ∈ ownM (h + 1) t ∨ H1 q = none := fun q hq => by
    rcases own_mem.1 hq with h1 | ⟨u, hu, h1⟩
    · exact (Fr.nw q h1).imp (fun h => own_mem.2 (.inl h)) id
    · exact .inl (own_mem.2 (.inr ⟨u, by rw [kst] at hu; exact hu, h1⟩))
  have hfin : GrowN H H12 h t' := by
    refine ⟨Fr.ext G.ext hidO, N12, fun u hu => ?_, ⟨ndt, fun u hu => ?_, by rw [kst]; exact G.sep.2.2⟩, fun q hq => ?_, fun x hx => ?_⟩
    · rw [kst] at hu
      exact (G.mem u hu).keep fun q hq => Fr.off ((G.sep.2.1 u hu).2 q hq) ((G.mem u hu).live q hq)
    · rw [kst] at hu
      refine ⟨(G.sep.2.1 u hu).1, fun q hq h1 => ?_⟩
      rcases Fr.nw q h1 with h2 | h2
      · exact (G.sep.2.1 u hu).2 q hq h2
      · exact (G.mem u hu).live q hq h2
    · rcases owt q hq with h1 | h1
      · exact G.hid q h1
      · exact G.ext.none h1
    · have hx' : KeyAt H1 x ∧ (x.key ≠ [] → ∀ q, rowB x.A q → q ∉ ownM (h + 1) t) := by
        rcases hx with hx | ⟨u, hu, hx⟩
        · rw [ht'] at hx
          have hx : x ∈ t.es ++ [e] := hx
          rcases List.mem_append.1 hx with hx | hx
          · exact G.key x (.inl hx)
          · rw [List.mem_singleton] at hx; subst hx; exact ⟨hk, hf⟩
        · rw [kst] at hu; exact G.key x (.inr ⟨u, hu, hx⟩)
      refine ⟨hx'.1.off Fr fun h0 q hq h1 => hx'.2 h0 q hq (own_mem.2 (.inl h1)), fun h0 q hq h1 => ?_⟩
      rcases owt q h1 with h2 | h2
      · exact hx'.2 h0 q hq h2
      · exact hx'.1.live h0 hq h2
  rw [ht'] at hfin
  exact hq H12 A' c' hfin
/-- A kid behind the others. -/
theorem GrowN.pushK (G : GrowN H H1 h t) (Mu : MemM H1 h u) (Su : SepM h u) (hu : ∀ q ∈ ownM h u, H q = none ∧ q ∉ ownM (h + 1) t) (ku : ∀ e ∈ flatM h u, KeyAt H1 e ∧ (e.key ≠ [] → ∀ q, rowB e.A q → q ∉ ownM (h + 1) t ∧ q ∉ ownM h u))
    (kt : ∀ e, (e ∈ t.es ∨ ∃ u ∈ t.ks, e ∈ flatM h u) → e.key ≠ [] → ∀ q, rowB e.A q → q ∉ ownM h u) (hs : t.ks.length < 1000) {K : Hp → Prop}
    (hq : ∀ H' A' c', GrowN H H' h (.mk t.g t.eA t.ec t.es A' c' (t.ks ++ [u])) → K H') :
    newF H1 86 [.pointer (some ⟨u.g, 0, none⟩)] fun g16 H17 => appendF H17 86 1 8 t.kA t.ks.length t.kc (some ⟨g16, 0, none⟩) 1 fun A18 n18 c18 H19 => storeF H19 t.g (0 + 1) [.slice A18 n18 c18] K := by
  intro g7 hg7
  have N := G.node
  have nd := G.sep.1
  obtain ⟨n1, n2, n3⟩ := nd1 nd
  have x8 : Ext H1 (upd g7 (.cells (ptC u).toArray 86 (0, 0)) H1) := Ext.new hg7
  have N8 := N.ext x8
  refine N8.kr.append (new := ptC u) (cellsAt_one upd_at) rfl (ptC_one u) (by unfold big; omega) (by omega) fun A' c' H10 R10 F10 _ => ?_
  have tl : H1 t.g ≠ none := N.live t.g (by simp [own1])
  have nA : ∀ q, rowB A' q → rowB t.kA q ∨ H1 q = none := fun q hq => (F10.nw q hq).imp id fun h => x8.none h
  have h1 : ¬ rowB A' t.g := fun h => by
    rcases nA _ h with h | h
    · exact n2 h
    · exact tl h
  have keep : ∀ q, ¬ rowB t.kA q → (upd g7 (.cells (ptC u).toArray 86 (0, 0)) H1) q ≠ none → H10 q = (upd g7 (.cells (ptC u).toArray 86 (0, 0)) H1) q := fun q hq hn => Classical.byContradiction fun hne => by
    rcases F10.ch q hne with h | h
    · exact hq h
    · exact hn h
  obtain ⟨ty, hc⟩ := N8.cell
  have hc10 : ∃ ty, H10 t.g = some (.cells (nodeC t.eA t.es.length t.ec t.kA t.ks.length t.kc).toArray ty (0, 0)) := ⟨ty, (keep _ n2 (by rw [hc]; simp)).trans hc⟩
  have k10 : RowO H10 t.eA t.es.length t.ec 2 (t.es.flatMap enC) := N8.er.keep fun q hq hn => keep q (fun h => n3 q hq h) hn
  have el : (t.ks ++ [u]).length = t.ks.length + 1 := by simp
  refine setK' hc10 k10 el.symm (by rw [el, List.flatMap_append]; simpa using R10) h1 n1 fun H12 N12 off lv => ?_
  obtain ⟨t', ht'⟩ : ∃ t' : MT, t' = .mk t.g t.eA t.ec t.es A' c' (t.ks ++ [u]) := ⟨_, rfl⟩
  rw [← ht'] at N12
  have ndt : (own1 t').Nodup := by
    rw [ht']
    exact nd_mk n1 h1 fun q hq hkq => by
      rcases nA q hkq with h | h
      · exact n3 q hq h
      · exact N.er.live hq h
  have Fr : FrM H1 H12 (own1 t) (own1 t') := ⟨fun q hq => by
    by_cases e1 : q = t.g
    · subst e1; exact .inl (by simp [own1])
    · rw [off q e1] at hq
      by_cases e2 : H10 q = (upd g7 (.cells (ptC u).toArray 86 (0, 0)) H1) q
      · rw [e2] at hq
        exact .inr (Classical.byContradiction fun hn => hq (ext_at x8 hn))
      · rcases F10.ch q e2 with h | h
        · exact .inl (by simp [own1, blk_row, h])
        · exact .inr (x8.none h), fun q hq => by
    rw [ht'] at hq
    rcases List.mem_cons.1 hq with h | h
    · exact .inl (by rw [h]; simp [own1, MT.g])
    · rcases List.mem_append.1 h with h | h
      · exact .inl (by simp only [own1, List.mem_cons, List.mem_append]; exact .inr (.inl h))
      · rcases nA q (blk_row.1 h) with h | h
        · exact .inl (by simp [own1, blk_row, h])
        · exact .inr h, fun q hq => by
    by_cases e1 : q = t.g
    · subst e1; exact lv
    · rw [off q e1]
      exact F10.al q fun e => hq ((ext_at x8 hq).symm.trans e)⟩
  have hidO : ∀ q ∈ own1 t, H q = none := fun q hq => G.hid q (own_mem.2 (.inl hq))
  have kst : t'.ks = t.ks ++ [u] := by rw [ht']; rfl
  have owt : ∀ q ∈ ownM (h + 1) t', q ∈ ownM (h + 1) t ∨ q ∈ ownM h u ∨ H1 q = none := fun q hq => by
    rcases own_mem.1 hq with h1 | ⟨v, hv, h1⟩
    · rcases Fr.nw q h1 with h | h
      · exact .inl (own_mem.2 (.inl h))
      · exact .inr (.inr h)
    · rw [kst] at hv
      rcases List.mem_append.1 hv with hv | hv
      · exact .inl (own_mem.2 (.inr ⟨v, hv, h1⟩))
      · rw [List.mem_singleton] at hv; subst hv; exact .inr (.inl h1)
  have hfin : GrowN H H12 h t' := by
    have memv : ∀ v ∈ t.ks ++ [u], MemM H1 h v ∧ SepM h v ∧ ∀ q ∈ ownM h v, q ∉ own1 t := fun v hv => by
      rcases List.mem_append.1 hv with hv | hv
      · exact ⟨G.mem v hv, (G.sep.2.1 v hv).1, (G.sep.2.1 v hv).2⟩
      · rw [List.mem_singleton] at hv; subst hv
        exact ⟨Mu, Su, fun q hq h1 => (hu q hq).2 (own_mem.2 (.inl h1))⟩
    refine ⟨Fr.ext G.ext hidO, N12, fun v hv => ?_, ⟨ndt, fun v hv => ?_, ?_⟩, fun q hq => ?_, fun x hx => ?_⟩
    · rw [kst] at hv
      obtain ⟨m1, m2, m3⟩ := memv v hv
      exact m1.keep fun q hq => Fr.off (m3 q hq) (m1.live q hq)
    · rw [kst] at hv
      obtain ⟨m1, m2, m3⟩ := memv v hv
      refine ⟨m2, fun q hq h1 => ?_⟩
      rcases Fr.nw q h1 with h2 | h2
      · exact m3 q hq h2
      · exact m1.live q hq h2
    · rw [kst, List.pairwise_append]
      refine ⟨G.sep.2.2, by simp, fun v hv w hw z hz h1 => ?_⟩
      rw [List.mem_singleton] at hw; subst hw
      exact (hu z h1).2 (own_mem.2 (.inr ⟨v, hv, hz⟩))
    · rcases owt q hq with h1 | h1 | h1
      · exact G.hid q h1
      · exact (hu q h1).1
      · exact G.ext.none h1
    · have hx' : KeyAt H1 x ∧ (x.key ≠ [] → ∀ q, rowB x.A q → q ∉ ownM (h + 1) t ∧ q ∉ ownM h u) := by
        rcases hx with hx | ⟨v, hv, hx⟩
        · rw [ht'] at hx
          have hx : x ∈ t.es := hx
          exact ⟨(G.key x (.inl hx)).1, fun h0 q hq => ⟨(G.key x (.inl hx)).2 h0 q hq, kt x (.inl hx) h0 q hq⟩⟩
        · rw [kst] at hv
          rcases List.mem_append.1 hv with hv | hv
          · exact ⟨(G.key x (.inr ⟨v, hv, hx⟩)).1, fun h0 q hq => ⟨(G.key x (.inr ⟨v, hv, hx⟩)).2 h0 q hq, kt x (.inr ⟨v, hv, hx⟩) h0 q hq⟩⟩
          · rw [List.mem_singleton] at hv; subst hv; exact ku x hx
      refine ⟨hx'.1.off Fr fun h0 q hq h1 => (hx'.2 h0 q hq).1 (own_mem.2 (.inl h1)), fun h0 q hq h1 => ?_⟩
      rcases owt q h1 with h2 | h2 | h2
      · exact (hx'.2 h0 q hq).1 h2
      · exact (hx'.2 h0 q hq).2 h2
      · exact hx'.1.live h0 hq h2
  rw [ht'] at hfin
  exact hq H12 A' c' hfin
end
end Go.Proofs.YtmelbipidffmpaaGreatDoor.Hw

/- Nodes grown out of blocks: grown. -/
set_option linter.unusedVariables false
set_option linter.unusedSimpArgs false
set_option linter.unusedSectionVars false
set_option maxRecDepth 20000
namespace Go.Proofs.YtmelbipidffmpaaGreatDoor.Hw
open Go Go.Proofs
def g52 (pt_0_A : Option Addr) (pt_0_n pt_0_c : Nat) (pt_1 : Int) (pt_2 : Int) (pi : Int) (H : Hp) (E : Nat → Hp → Prop) : Prop :=
  newF H 91 [.slice none 0 0, .slice none 0 0] fun g1 H2 => 0 ≤ (pi : Int) ∧ (pi : Int) < ((pt_0_n : Nat) : Int) ∧ onPtr pt_0_A fun b3 o3 => ∃ (A4 : Option Addr) (n4 c4 : Nat), cl H2 b3 ((o3 + (pi : Int).toNat * 2) + 0) = some (.slice A4 n4 c4) ∧ LoopF (σ := (Int × Unit) × Unit) ((0, ()), ()) H2 fun s5 H6 next7 => cnd (decide ((s5.1.1 : Int) < ((n4 : Nat) : Int))) (0 ≤ (s5.1.1 : Int) ∧ (s5.1.1 : Int) < ((n4 : Nat) : Int) ∧ onPtr A4 fun b8 o8 => ∃ (A9 : Option Addr) (n9 c9 : Nat), cl H6 b8 (o8 + (s5.1.1 : Int).toNat * 2) = some (.slice A9 n9 c9) ∧ ∃ x10 : Int, cl H6 b8 ((o8 + (s5.1.1 : Int).toNat * 2) + 1) = some (.int .i64 x10) ∧ ∃ (A11 : Option Addr) (n11 c11 : Nat), cl H6 g1 (0 + 0) = some (.slice A11 n11 c11) ∧ HCalls Tryz.prog 37 [.agg #[.slice A9 n9 c9, .int .i64 x10]] H6 fun v12 H13 => ∃ (A14 : Option Addr) (n14 c14 : Nat), ∃ x15 : Int, v12 = .agg #[.slice A14 n14 c14, .int .i64 x15] ∧ H13 g1 = H6 g1 ∧ newF H13 46 [.slice A14 n14 c14, .int .i64 x15] fun g16 H17 => appendF H17 46 2 32 A11 n11 c11 (some ⟨g16, 0, none⟩) 1 fun A18 n18 c18 H19 => storeF H19 g1 (0 + 0) [.slice A18 n18 c18] fun H20 => KeepX [some (.v (.int .i64 pi)), some (.loc 2 0), some (.v (.pointer (some ⟨g1, 0, none⟩))), some (.v (.slice A4 n4 c4)), some (.v (.int .i64 ((n4 : Nat) : Int)))] [some (true, [.slice pt_0_A pt_0_n pt_0_c, .int .i64 pt_1, .int .i64 pt_2])] ∧ next7 ((IntKind.i64.wrap (s5.1.1 + 1), ()), ()) H20) (E g1 H6)
def e52 (pt_0_A : Option Addr) (pt_0_n pt_0_c : Nat) (pt_1 : Int) (pt_2 : Int) (pi : Int) (Q : Value → Hp → Prop) (g1 : Nat) (H6 : Hp) : Prop :=
  (0 ≤ (pi : Int) ∧ (pi : Int) < ((pt_0_n : Nat) : Int) ∧ onPtr pt_0_A fun b21 o21 => ∃ (A22 : Option Addr) (n22 c22 : Nat), cl H6 b21 ((o21 + (pi : Int).toNat * 2) + 1) = some (.slice A22 n22 c22) ∧ LoopF (σ := (Int × Unit) × Unit) ((0, ()), ()) H6 fun s23 H24 next25 => cnd (decide ((s23.1.1 : Int) < ((n22 : Nat) : Int))) (0 ≤ (s23.1.1 : Int) ∧ (s23.1.1 : Int) < ((n22 : Nat) : Int) ∧ onPtr A22 fun b26 o26 => ∃ x27 : Int, cl H24 b26 (o26 + (s23.1.1 : Int).toNat * 1) = some (.int .i64 x27) ∧ ∃ (A28 : Option Addr) (n28 c28 : Nat), cl H24 g1 (0 + 1) = some (.slice A28 n28 c28) ∧ HCalls Tryz.prog 52 [.agg #[.slice pt_0_A pt_0_n pt_0_c, .int .i64 pt_1, .int .i64 pt_2], .int .i64 x27] H24 fun v29 H30 => ∃ p31 : Option Addr, v29 = .pointer p31 ∧ H30 g1 = H24 g1 ∧ newF H30 86 [.pointer p31] fun g32 H33 => appendF H33 86 1 8 A28 n28 c28 (some ⟨g32, 0, none⟩) 1 fun A34 n34 c34 H35 => storeF H35 g1 (0 + 1) [.slice A34 n34 c34] fun H36 => KeepX [some (.loc 2 0), some (.v (.pointer (some ⟨g1, 0, none⟩))), some (.v (.slice A22 n22 c22)), some (.v (.int .i64 ((n22 : Nat) : Int)))] [some (true, [.slice pt_0_A pt_0_n pt_0_c, .int .i64 pt_1, .int .i64 pt_2])] ∧ next25 ((IntKind.i64.wrap (s23.1.1 + 1), ()), ()) H36) (Q (.pointer (some ⟨g1, 0, none⟩)) H24))

section
variable {X : Hp} {A : Option Addr} {n c : Nat} {root cols : Int} {bl : List NdM}
theorem f52_is {i : Int} {H : Hp} {Q : Value → Hp → Prop} : f52 A n c root cols i H Q = g52 A n c root cols i H (e52 A n c root cols i Q) := rfl
/-- Keys that are new. -/
def NewK (H : Hp) (e : EnM) : Prop := e.key ≠ [] → ∀ q, rowB e.A q → H q = none
theorem grown_es {hh : Nat} {i : Int} {H : Hp} {b : NdM} {E : Nat → Hp → Prop} (hT : TrAt X A n bl) (hX : Ext X H) (h0 : 0 ≤ i) (hb : bl[i.toNat]? = some b) (h8 : b.es.length ≤ 8) (hk : ∀ e ∈ b.es, e.key.length < big)
    (hE : ∀ H6 t, GrowN H H6 hh t → t.ks = [] → t.es.map sayE = b.es.map sayE → (∀ e ∈ t.es, NewK H e) → E t.g H6) : g52 A n c root cols i H E := by
  unfold g52
  intro g1 hg1
  have hn := hT.sl.len
  have hil := (List.getElem?_eq_some_iff.1 hb).1
  have hnd := hT.nd b (List.mem_of_getElem? hb)
  have x2 : Ext H (upd g1 (.cells [Value.slice none 0 0, .slice none 0 0].toArray 91 (0, 0)) H) := Ext.new hg1
  have xx := hX.trans x2
  have N2 : NodeM (upd g1 (.cells [Value.slice none 0 0, .slice none 0 0].toArray 91 (0, 0)) H) (.mk g1 none 0 [] none 0 []) := ⟨⟨91, upd_at⟩, RowO.nil, RowO.nil⟩
  have o1 : own1 (.mk g1 none 0 [] none 0 []) = [g1] := rfl
  have G2 : GrowN H (upd g1 (.cells [Value.slice none 0 0, .slice none 0 0].toArray 91 (0, 0)) H) hh (.mk g1 none 0 [] none 0 []) := ⟨x2, N2, fun u hu => (by cases hu), ⟨by rw [o1]; simp, fun u hu => (by cases hu), List.Pairwise.nil⟩, (fun q hq => by
    rcases own_mem.1 hq with h | ⟨u, hu, _⟩
    · rw [o1, List.mem_singleton] at h; subst h; exact hg1
    · cases hu), (fun e he => by
    rcases he with he | ⟨u, hu, _⟩
    · cases he
    · cases hu)⟩
  refine ⟨by omega, by omega, rd_nd (hT.ext xx).sl hb fun q o _ k1 k2 => ⟨_, _, _, by simpa using k1, ?_⟩⟩
  refine loop_to b.es.length (fun k st H' => st = (((k : Int), ()), ()) ∧ ∃ t, t.g = g1 ∧ GrowN H H' hh t ∧ t.ks = [] ∧ t.es.length = k ∧ t.es.map sayE = (b.es.take k).map sayE ∧ ∀ e ∈ t.es, NewK H e) ⟨rfl, _, rfl, G2, rfl, rfl, rfl, fun e he => by cases he⟩ ?_
  rintro k st H6 next hk' ⟨rfl, t, hg, G, hks, hl, hm, hnew⟩ hnext
  dsimp only
  refine cndI (fun hlt => ?_) fun hlt => ?_
  · have hlt := of_decide_eq_true hlt
    obtain ⟨e, he⟩ := get_of (l := b.es) (i := k) (by omega)
    have hem := List.mem_of_getElem? he
    have hx6 := hX.trans G.ext
    have c0 := G.node.cl0
    rw [hg] at c0
    refine ⟨by omega, by omega, rd_en (hnd.es.ext hx6) he fun q o _ k1 k2 => ⟨_, _, _, by simpa using k1, _, by simpa using k2, _, _, _, c0, ?_⟩⟩
    refine c37n ((hnd.key e hem).ext hx6) (hk e hem) fun e' H13 x13 hsay hke hnw => ⟨_, _, _, _, rfl, ?_, ?_⟩
    · have : H6 g1 ≠ none := by rw [← hg]; exact G.live t.g (own_mem.2 (.inl (by simp [own1])))
      exact ext_at x13 this
    · have G13 := G.more x13
      have st := G13.pushE hke (fun _ q hq h1 => by
        have := G.live q h1
        exact this (hnw q hq)) (by omega) (K := fun H20 => KeepX [some (.v (.int .i64 i)), some (.loc 2 0), some (.v (.pointer (some ⟨g1, 0, none⟩))), some (.v (.slice b.eA b.es.length b.ec)), some (.v (.int .i64 ((b.es.length : Nat) : Int)))] [some (true, [.slice A n c, .int .i64 root, .int .i64 cols])] ∧ next ((IntKind.i64.wrap ((k : Int) + 1), ()), ()) H20) fun H20 A' c' G20 => ⟨rfl, hnext _ _ (by omega) ⟨by rw [wrap_id (by omega) (by omega)]; rfl, .mk t.g A' c' (t.es ++ [e']) t.kA t.kc t.ks, hg, G20, hks, by show (t.es ++ [e']).length = k + 1; simp [hl], ?_, fun x hx => ?_⟩⟩
      · rw [hg] at st
        exact st
      · show (t.es ++ [e']).map sayE = _
        rw [List.map_append, hm, take_snoc he, List.map_append]
        simp [hsay]
      · have hx : x ∈ t.es ++ [e'] := hx
        rcases List.mem_append.1 hx with hx | hx
        · exact hnew x hx
        · rw [List.mem_singleton] at hx; subst hx
          exact fun _ q hq => G.ext.none (hnw q hq)
  · have hlt := of_decide_eq_false hlt
    have : k = b.es.length := by omega
    rw [this, List.take_length] at hm
    have := hE H6 t G hks hm hnew
    rw [hg] at this
    exact this
theorem inter_map {α β : Type} {f : α → β} : ∀ {K : List (List α)} {E : List α}, (inter K E).map f = inter (K.map (List.map f)) (E.map f)
  | [], E => rfl
  | k :: K, [] => by
    show (k ++ inter K []).map f = k.map f ++ inter (K.map (List.map f)) []
    rw [List.map_append, inter_map]; rfl
  | k :: K, e :: E => by
    show (k ++ e :: inter K E).map f = k.map f ++ f e :: inter (K.map (List.map f)) (E.map f)
    rw [List.map_append, List.map_cons, inter_map]
theorem c52 : ∀ {h : Nat} {H : Hp} {i : Int} {bt : BT} {r : Bool} {Q : Value → Hp → Prop}, TrAt X A n bl → Ext X H → AtB bl h i bt → FullB r h bt → (∀ e ∈ flatB h bt, e.key.length < big) →
    (∀ H' t, Ext H H' → MemM H' h t → SepM h t → (∀ q ∈ ownM h t, H q = none) → (flatM h t).map sayE = (flatB h bt).map sayE → FullM bt.es.length 8 h t → (∀ e ∈ flatM h t, KeyAt H' e ∧ NewK H e ∧ (e.key ≠ [] → ∀ q, rowB e.A q → q ∉ ownM h t)) → Q (.pointer (some ⟨t.g, 0, none⟩)) H') →
    HCalls Tryz.prog 52 [.agg #[.slice A n c, .int .i64 root, .int .i64 cols], .int .i64 i] H Q := by
  intro h
  induction h with
  | zero =>
    intro H i bt r Q hT hX hA hF hk hq
    refine f52.ok _ _ _ _ _ _ ?_
    rw [f52_is]
    obtain ⟨hi0, hbk, b, hb, hbe, hbks⟩ := hA
    obtain ⟨f1, f2, f3⟩ := hF
    have hnd := hT.nd b (List.mem_of_getElem? hb)
    have hn := hT.sl.len
    have hil := (List.getElem?_eq_some_iff.1 hb).1
    refine grown_es (hh := 0) hT hX hi0 hb (by rw [hbe]; exact f2) (fun e he => hk e (by rw [hbe] at he; exact he)) fun H6 t G hks hm hnew => ?_
    unfold e52
    refine ⟨by omega, by omega, rd_nd (hT.ext (hX.trans G.ext)).sl hb fun q o _ k1 k2 => ⟨_, _, _, by simpa using k2, ?_⟩⟩
    refine loop_to 0 (fun k st H' => st = ((0, ()), ()) ∧ H' = H6) ⟨rfl, rfl⟩ ?_
    rintro k st H24 next hk' ⟨rfl, rfl⟩ hnext
    dsimp only
    have hl : t.es.length = bt.es.length := by have := congrArg List.length hm; rw [hbe] at this; simpa using this
    refine cndF (by rw [hbks]; rfl) (hq H24 t G.ext ⟨G.node, hks⟩ G.sep.1 (fun q hq => G.hid q (own_mem.2 (.inl hq))) (by rw [hbe] at hm; exact hm) ⟨hks, by omega, by omega⟩ fun e he => ?_)
    obtain ⟨z1, z2⟩ := G.key e (.inl he)
    exact ⟨z1, hnew e he, fun h0 q hq h1 => z2 h0 q hq (own_mem.2 (.inl h1))⟩
  | succ h ih =>
    intro H i bt r Q hT hX hA hF hk hq
    refine f52.ok _ _ _ _ _ _ ?_
    rw [f52_is]
    obtain ⟨hi0, b, hb, hbe, hbl, hkid⟩ := hA
    obtain ⟨f1, f2, f3, f4, f5⟩ := hF
    have hnd := hT.nd b (List.mem_of_getElem? hb)
    have hn := hT.sl.len
    have hil := (List.getElem?_eq_some_iff.1 hb).1
    have hmem : ∀ x, x ∈ flatB (h + 1) bt ↔ x ∈ bt.es ∨ ∃ k ∈ bt.ks.map (flatB h), x ∈ k := fun x => inter_mem (by rw [List.length_map]; exact f1)
    refine grown_es (hh := h) hT hX hi0 hb (by rw [hbe]; exact f2) (fun e he => hk e ((hmem e).2 (.inl (by rw [← hbe]; exact he)))) fun H6 t G hks hm hnew => ?_
    unfold e52
    have hbks : b.ks.length = bt.es.length + 1 := by omega
    refine ⟨by omega, by omega, rd_nd (hT.ext (hX.trans G.ext)).sl hb fun q o _ k1 k2 => ⟨_, _, _, by simpa using k2, ?_⟩⟩
    refine loop_to b.ks.length (fun k st H' => st = (((k : Int), ()), ()) ∧ ∃ t', t'.g = t.g ∧ t'.es = t.es ∧ GrowN H H' h t' ∧ t'.ks.length = k ∧ (t'.ks.map (flatM h)).map (List.map sayE) = ((bt.ks.take k).map (flatB h)).map (List.map sayE) ∧ (∀ u ∈ t'.ks, FullM 3 8 h u) ∧ ∀ e, (e ∈ t'.es ∨ ∃ u ∈ t'.ks, e ∈ flatM h u) → NewK H e)
      ⟨rfl, t, rfl, rfl, G, by rw [hks]; rfl, by rw [hks]; rfl, (fun u hu => by rw [hks] at hu; cases hu), (fun e he => by
        rcases he with he | ⟨u, hu, _⟩
        · exact hnew e he
        · rw [hks] at hu; cases hu)⟩ ?_
    rintro k st H24 next hk' ⟨rfl, t', hg, hes, G', hl, hfm, hfull, hnk⟩ hnext
    dsimp only
    refine cndI (fun hlt => ?_) fun hlt => ?_
    · have hlt := of_decide_eq_true hlt
      obtain ⟨x, hx⟩ := get_of (l := b.ks) (i := k) (by omega)
      obtain ⟨v, hv⟩ := get_of (l := bt.ks) (i := k) (by omega)
      have hvm := List.mem_of_getElem? hv
      have c1 := G'.node.cl1
      rw [hg] at c1
      have hx24 := hX.trans G'.ext
      refine ⟨by omega, by omega, rd_in (hnd.ks.ext hx24) hx fun q o _ kc => ⟨x, by simpa using kc, _, _, _, c1, ?_⟩⟩
      refine ih hT hx24 (hkid k x v hx hv) (f5 v hvm) (fun e he => hk e ((hmem e).2 (.inr ⟨_, List.mem_map_of_mem hvm, he⟩))) fun H30 u x30 Mu Su hidu hsu Fu ku => ⟨_, rfl, ?_, ?_⟩
      · have : H24 t.g ≠ none := by rw [← hg]; exact G'.live t'.g (own_mem.2 (.inl (by simp [own1])))
        exact ext_at x30 this
      · have G30 := G'.more x30
        have back : ∀ q, H24 q = none → H q = none := fun q hq => G'.ext.none hq
        have st := G30.pushK Mu Su (fun q hq => ⟨back q (hidu q hq), fun h1 => G'.live q h1 (hidu q hq)⟩) (fun e he => by
            obtain ⟨z1, z2, z3⟩ := ku e he
            exact ⟨z1, fun h0 q hq => ⟨fun h1 => G'.live q h1 (z2 h0 q hq), z3 h0 q hq⟩⟩)
          (fun e he h0 q hq h1 => (G'.key e he).1.live h0 hq (hidu q h1)) (by omega)
          (K := fun H36 => KeepX [some (.loc 2 0), some (.v (.pointer (some ⟨t.g, 0, none⟩))), some (.v (.slice b.kA b.ks.length b.kc)), some (.v (.int .i64 ((b.ks.length : Nat) : Int)))] [some (true, [.slice A n c, .int .i64 root, .int .i64 cols])] ∧ next ((IntKind.i64.wrap ((k : Int) + 1), ()), ()) H36) fun H36 A' c' G36 => ⟨rfl, hnext _ _ (by omega) ⟨by rw [wrap_id (by omega) (by omega)]; rfl, .mk t'.g t'.eA t'.ec t'.es A' c' (t'.ks ++ [u]), hg, hes, G36, by show (t'.ks ++ [u]).length = k + 1; simp [hl], ?_, fun w hw => ?_, fun e he => ?_⟩⟩
        · rw [hg] at st
          exact st
        · show ((t'.ks ++ [u]).map (flatM h)).map (List.map sayE) = _
          rw [List.map_append, List.map_append, hfm, take_snoc hv, List.map_append, List.map_append]
          simp [hsu]
        · have hw : w ∈ t'.ks ++ [u] := hw
          rcases List.mem_append.1 hw with hw | hw
          · exact hfull w hw
          · rw [List.mem_singleton] at hw; subst hw
            have hv3 : 3 ≤ v.es.length := by
              have := f5 v hvm
              cases h with
              | zero => rcases this.2.2 with h | h; cases h; exact h
              | succ h => rcases this.2.2.1 with h | h; cases h; exact h
            exact Fu.lower hv3
        · rcases he with he | ⟨w, hw, he⟩
          · exact hnk e (.inl he)
          · have hw : w ∈ t'.ks ++ [u] := hw
            rcases List.mem_append.1 hw with hw | hw
            · exact hnk e (.inr ⟨w, hw, he⟩)
            · rw [List.mem_singleton] at hw; subst hw
              exact fun h0 q hq => back q ((ku e he).2.1 h0 q hq)
    · have hlt := of_decide_eq_false hlt
      have hkk : k = b.ks.length := by omega
      rw [hkk, List.take_of_length_le (by omega)] at hfm
      have hle : t'.es.length = bt.es.length := by rw [hes]; have := congrArg List.length hm; rw [hbe] at this; simpa using this
      have hin : ∀ e ∈ flatM (h + 1) t', e ∈ t'.es ∨ ∃ u ∈ t'.ks, e ∈ flatM h u := fun e he => by
        have := (inter_mem (by rw [List.length_map]; omega)).1 he
        rcases this with h1 | ⟨l, hl', h1⟩
        · exact .inl h1
        · obtain ⟨u, hu, rfl⟩ := List.mem_map.1 hl'
          exact .inr ⟨u, hu, h1⟩
      have := hq H24 t' G'.ext ⟨G'.node, G'.mem⟩ G'.sep G'.hid (by
        show (inter (t'.ks.map (flatM h)) t'.es).map sayE = (inter (bt.ks.map (flatB h)) bt.es).map sayE
        rw [inter_map, inter_map, hfm, hes, hm, hbe]) ⟨by omega, by omega, by omega, hfull⟩ fun e he => by
        obtain ⟨z1, z2⟩ := G'.key e (hin e he)
        exact ⟨z1, hnk e (hin e he), z2⟩
      rw [hg] at this
      exact this
end
end Go.Proofs.YtmelbipidffmpaaGreatDoor.Hw

/- Insert. -/
set_option linter.unusedVariables false
set_option linter.unusedSimpArgs false
set_option linter.unusedSectionVars false
set_option maxRecDepth 20000
namespace Go.Proofs.YtmelbipidffmpaaGreatDoor.Hw
open Go Go.Proofs
theorem ord_say {a b a' b' : EnM} (h1 : sayE a = sayE a') (h2 : sayE b = sayE b') : ordE a b = ordE a' b' := by
  have k1 : a.key = a'.key := congrArg Prod.fst h1
  have k2 : a.id = a'.id := congrArg Prod.snd h1
  have k3 : b.key = b'.key := congrArg Prod.fst h2
  have k4 : b.id = b'.id := congrArg Prod.snd h2
  unfold ordE
  rw [k1, k2, k3, k4]
theorem ent_say {cols : Int} {a a' : EnM} (h1 : sayE a = sayE a') : entB cols a = entB cols a' := by
  have k1 : a.key = a'.key := congrArg Prod.fst h1
  have k2 : a.id = a'.id := congrArg Prod.snd h1
  unfold entB
  rw [k1, k2]
theorem say_get {l l' : List EnM} (h : l.map sayE = l'.map sayE) {i : Nat} {x : EnM} (hx : l[i]? = some x) : ∃ y, l'[i]? = some y ∧ sayE y = sayE x := by
  have h1 := congrArg (fun l => l[i]?) h
  simp only [List.getElem?_map, hx, Option.map_some] at h1
  cases hy : l'[i]? with
  | none => rw [hy] at h1; cases h1
  | some y => rw [hy] at h1; exact ⟨y, rfl, (Option.some.inj h1).symm⟩
theorem say_mem {l l' : List EnM} (h : l.map sayE = l'.map sayE) {x : EnM} (hx : x ∈ l) : ∃ y ∈ l', sayE y = sayE x := by
  obtain ⟨i, hi⟩ := List.mem_iff_getElem?.1 hx
  obtain ⟨y, hy, e⟩ := say_get h hi
  exact ⟨y, List.mem_of_getElem? hy, e⟩
theorem srt_say {l l' : List EnM} (h : l.map sayE = l'.map sayE) (hs : SrtE l) : SrtE l' := by
  unfold SrtE at hs ⊢
  rw [List.pairwise_iff_getElem] at hs ⊢
  intro i j hi hj hij
  obtain ⟨x, hx, ex⟩ := say_get h.symm (List.getElem?_eq_getElem hi)
  obtain ⟨y, hy, ey⟩ := say_get h.symm (List.getElem?_eq_getElem hj)
  obtain ⟨a1, a2⟩ := List.getElem?_eq_some_iff.1 hx
  obtain ⟨a3, a4⟩ := List.getElem?_eq_some_iff.1 hy
  have := hs i j a1 a3 hij
  rw [a2, a4] at this
  rw [← ord_say ex ey]; exact this
theorem has_false {l : List EnM} {e : EnM} (hs : SrtE l) (h : hasE l e = false) : ∀ x ∈ l, ordE x e ≠ 0 := fun x hx h0 => by
  obtain ⟨j, hj⟩ := List.mem_iff_getElem?.1 hx
  have hjl := (List.getElem?_eq_some_iff.1 hj).1
  have hc : cntE l e = j := take_is (p := fun x => decide (ordE x e < 0)) (fun i a hi ha => by
    have h1 : ordE a x < 0 := by
      have h2 := hs.le (by omega : i ≤ j) ha hj
      obtain ⟨a1, a2⟩ := List.getElem?_eq_some_iff.1 ha
      obtain ⟨a3, a4⟩ := List.getElem?_eq_some_iff.1 hj
      have := List.pairwise_iff_getElem.1 hs i j a1 a3 hi
      rw [a2, a4] at this; exact this
    exact decide_eq_true (ordE_ok.lt_of h1 (by omega))) (fun a ha => by
    rw [hj] at ha; cases ha
    exact decide_eq_false (by omega)) (by omega)
  unfold hasE at h
  rw [hc, hj] at h
  have h : (ordE x e == 0) = false := h
  rw [h0] at h; cases h
theorem has_true {l : List EnM} {e : EnM} (h : hasE l e = true) : ∃ x ∈ l, ordE x e = 0 := by
  unfold hasE at h
  cases hg : l[cntE l e]? with
  | none => rw [hg] at h; cases h
  | some x =>
    rw [hg] at h
    exact ⟨x, List.mem_of_getElem? hg, by simpa using h⟩
/-- What an entry put into a list says. -/
def PutS (l : List EnM) (e : EnM) (l' : List EnM) : Prop := ∃ a b, l = a ++ b ∧ l'.map sayE = a.map sayE ++ sayE e :: b.map sayE ∧ (∀ x ∈ a, ordE x e < 0) ∧ ∀ x ∈ b, ordE e x < 0
theorem Put.says {l0 l l' : List EnM} {e0 e : EnM} (h : Put l e l') (hl : l.map sayE = l0.map sayE) (he : sayE e = sayE e0) : PutS l0 e0 l' := by
  obtain ⟨a, b, rfl, rfl, ha, hb⟩ := h
  have hlen : l0.length = a.length + b.length := by have := congrArg List.length hl; simp at this; omega
  have h1 : (l0.take a.length).map sayE = a.map sayE := by rw [List.map_take, ← hl, List.map_append, List.take_left' (by simp)]
  have h2 : (l0.drop a.length).map sayE = b.map sayE := by rw [List.map_drop, ← hl, List.map_append, List.drop_left' (by simp)]
  refine ⟨l0.take a.length, l0.drop a.length, (List.take_append_drop _ _).symm, by rw [h1, h2, List.map_append, List.map_cons, he], fun x hx => ?_, fun x hx => ?_⟩
  · obtain ⟨y, hy, e1⟩ := say_mem h1 hx
    rw [← ord_say e1 he]; exact ha y hy
  · obtain ⟨y, hy, e1⟩ := say_mem h2 hx
    rw [← ord_say he e1]; exact hb y hy
/-- Memory without some blocks. -/
def hideH (O : List Nat) (H : Hp) : Hp := fun b => if b ∈ O then none else H b
theorem hide_ext {O : List Nat} {H : Hp} : Ext (hideH O H) H := fun b o h => by
  unfold hideH at h
  split at h
  · cases h
  · exact h
theorem hide_in {O : List Nat} {H : Hp} {q : Nat} (h : q ∈ O) : hideH O H q = none := if_pos h
theorem KeyAt.hide {O : List Nat} {H : Hp} {e : EnM} (h : KeyAt H e) (hk : e.key ≠ [] → ∀ q, rowB e.A q → q ∉ O) : KeyAt (hideH O H) e := h.stay fun h0 q hq _ => if_neg (hk h0 q hq)
section
variable {H : Hp} {A : Option Addr} {n c : Nat} {root cols : Int} {bl : List NdM} {Q : Value → Hp → Prop} {e : EnM}
/-- What Insert answers, in a number. -/
def insCode (t : Option Sv) (cols : Int) (e : EnM) : Int := match t with
  | none => 2
  | some S => if entB cols e = true then (if hasE S.out e = true then 14 else if 4000 ≤ S.out.length then 3 else 0) else 2
theorem out_root {h : Nat} {H1 : Hp} {t : MT} {lo : Nat} {X : Hp} (M : MemM H1 h t) (S : SepM h t) (F : FullM lo 9 h t) (hlo : h = 0 ∨ 1 ≤ lo) (hX : Ext X H1) (hid : ∀ q ∈ ownM h t, X q = none) (hkey : ∀ x ∈ flatM h t, KeyAt X x) (hc : 1 ≤ cols ∧ cols ≤ 20) (hs : SrtE (flatM h t)) (he : ∀ x ∈ flatM h t, entB cols x = true) (hn : (flatM h t).length ≤ 4000)
    {J : Option Addr → Hp → Prop} (hJ : ∀ (h' : Nat) (t' : MT) (lo' : Nat) (H' : Hp), MemM H' h' t' → FullM lo' 8 h' t' → (h' = 0 ∨ 1 ≤ lo') → Ext X H' → flatM h' t' = flatM h t → SepM h' t' → (∀ q ∈ ownM h' t', X q = none) → J (some ⟨t'.g, 0, none⟩) H') :
    ∃ (A29 : Option Addr) (n29 c29 : Nat), cl H1 t.g (0 + 0) = some (.slice A29 n29 c29) ∧ cnd (decide (((n29 : Nat) : Int) > 8))
      (HCalls Tryz.prog 54 [.pointer (some ⟨t.g, 0, none⟩)] H1 fun v30 H31 => ∃ (A32 : Option Addr) (n32 c32 : Nat), ∃ x33 : Int, ∃ p34 : Option Addr, v30 = .tuple #[.agg #[.slice A32 n32 c32, .int .i64 x33], .pointer p34] ∧ newF H31 46 [.slice A32 n32 c32, .int .i64 x33] fun g35 H36 => newF H36 86 [.pointer (some ⟨t.g, 0, none⟩), .pointer p34] fun g37 H38 => newF H38 91 [.slice (some ⟨g35, 0, none⟩) 1 1, .slice (some ⟨g37, 0, none⟩) 2 2] fun g39 H40 => J (some ⟨g39, 0, none⟩) H40)
      (J (some ⟨t.g, 0, none⟩) H1) := by
  refine ⟨_, _, _, M.node.cl0, cndI (fun h8 => ?_) fun h8 => ?_⟩
  · have h8 := of_decide_eq_true h8
    refine c54m M S F (by omega) fun H31 tl tr mid Ml Mr Sl Sr ap Fl Fr hgl hflat nl nr F31 => ⟨_, _, _, _, _, rfl, fun g35 hg35 g37 hg37 g39 hg39 => ?_⟩
    have x36 : Ext H31 (upd g35 (.cells (enC mid).toArray 46 (0, 0)) H31) := Ext.new hg35
    have x38 := Ext.new (o := .cells [Value.pointer (some ⟨t.g, 0, none⟩), .pointer (some ⟨tr.g, 0, none⟩)].toArray 86 (0, 0)) hg37
    have x40 := Ext.new (o := .cells [Value.slice (some ⟨g35, 0, none⟩) 1 1, .slice (some ⟨g37, 0, none⟩) 2 2].toArray 91 (0, 0)) hg39
    have xx := x36.trans (x38.trans x40)
    have hX31 : Ext X H31 := F31.ext hX hid
    refine hJ (h + 1) (.mk g39 (some ⟨g35, 0, none⟩) 1 [mid] (some ⟨g37, 0, none⟩) 2 [tl, tr]) 1 _ ⟨⟨⟨91, upd_at⟩, ?_, ?_⟩, fun u hu => ?_⟩ ⟨rfl, Nat.le_refl _, by simp [MT.es], fun u hu => ?_⟩ (.inr (Nat.le_refl _)) (hX31.trans xx) ?_ ?_ ?_
    · refine ⟨rfl, Nat.le_refl _, .inr ⟨g35, 0, enC mid, 46, rfl, (x38.trans x40) _ _ upd_at, (by show 0 + 1 * 2 ≤ 2; omega), fun j v hj => ?_⟩⟩
      rw [Nat.zero_add]; simpa [MT.es] using hj
    · refine ⟨rfl, Nat.le_refl _, .inr ⟨g37, 0, [Value.pointer (some ⟨t.g, 0, none⟩), .pointer (some ⟨tr.g, 0, none⟩)], 86, rfl, x40 _ _ upd_at, (by show 0 + 2 * 1 ≤ 2; omega), fun j v hj => ?_⟩⟩
      rw [Nat.zero_add]
      have : ([tl, tr].flatMap ptC)[j]? = some v := hj
      simp only [List.flatMap_cons, List.flatMap_nil, ptC, hgl] at this
      exact this
    · have hu : u ∈ [tl, tr] := hu
      rcases List.mem_cons.1 hu with rfl | hu
      · exact Ml.ext xx
      · rw [List.mem_singleton] at hu; subst hu; exact Mr.ext xx
    · have hu : u ∈ [tl, tr] := hu
      rcases List.mem_cons.1 hu with rfl | hu
      · exact Fl
      · rw [List.mem_singleton] at hu; subst hu; exact Fr
    · show inter ([tl, tr].map (flatM h)) [mid] = _
      rw [hflat]
      simp [inter]
    · have l31 : ∀ q, (q ∈ ownM h tl ∨ q ∈ ownM h tr) → H31 q ≠ none := fun q hq => hq.elim (Ml.live q) (Mr.live q)
      have e37 : g37 ≠ g35 := fun e => by subst e; rw [upd_at] at hg37; cases hg37
      have e39 : g39 ≠ g35 ∧ g39 ≠ g37 := by
        refine ⟨fun e => ?_, fun e => ?_⟩
        · subst e
          have := x38 _ _ (upd_at (t := g39) (a := Obj.cells (enC mid).toArray 46 (0, 0)) (e := H31))
          rw [hg39] at this; cases this
        · subst e; rw [upd_at] at hg39; cases hg39
      have n37 : H31 g37 = none := x36.none hg37
      have n39 : H31 g39 = none := x36.none (x38.none hg39)
      have o1 : ∀ q, q ∈ own1 (.mk g39 (some ⟨g35, 0, none⟩) 1 [mid] (some ⟨g37, 0, none⟩) 2 [tl, tr]) ↔ q = g39 ∨ q = g35 ∨ q = g37 := fun q => by
        show q ∈ [g39, g35, g37] ↔ _
        simp
      have on : ∀ q, q ∈ own1 (.mk g39 (some ⟨g35, 0, none⟩) 1 [mid] (some ⟨g37, 0, none⟩) 2 [tl, tr]) → H31 q = none := fun q hq => by
        rcases (o1 q).1 hq with rfl | rfl | rfl
        · exact n39
        · exact hg35
        · exact n37
      refine ⟨?_, fun u hu => ?_, ?_⟩
      · show ([g39, g35, g37] : List Nat).Nodup
        simp [e39.1, e39.2, Ne.symm e37]
      · have hu : u ∈ [tl, tr] := hu
        rcases List.mem_cons.1 hu with rfl | hu
        · exact ⟨Sl, fun q hq h1 => l31 q (.inl hq) (on q h1)⟩
        · rw [List.mem_singleton] at hu; subst hu
          exact ⟨Sr, fun q hq h1 => l31 q (.inr hq) (on q h1)⟩
      · show [tl, tr].Pairwise (Apart h)
        simp [ap]
    · intro q hq
      rcases own_mem.1 hq with h1 | ⟨u, hu, h1⟩
      · refine hX31.none ?_
        have h1 : q ∈ [g39, g35, g37] := h1
        simp only [List.mem_cons, List.not_mem_nil, or_false] at h1
        rcases h1 with rfl | rfl | rfl
        · exact x36.none (x38.none hg39)
        · exact hg35
        · exact x36.none hg37
      · have hu : u ∈ [tl, tr] := hu
        have h2 : q ∈ ownM h t ∨ H1 q = none := by
          rcases List.mem_cons.1 hu with rfl | hu
          · exact nl q h1
          · rw [List.mem_singleton] at hu; subst hu; exact nr q h1
        rcases h2 with h2 | h2
        · exact hid q h2
        · exact hX.none h2
  · have h8 := of_decide_eq_false h8
    refine hJ h t lo H1 M ?_ hlo hX rfl S hid
    cases h with
    | zero => exact ⟨F.1, F.2.1, by omega⟩
    | succ h => exact ⟨F.1, F.2.1, by omega, F.2.2.2⟩
theorem c25 (N : NullAt H) (hT : TrAt H A n bl) (hF : Fewish bl) (hK : KeyAt H e)
    (h0 : insCode (treeV bl root cols) cols e ≠ 0 → ∀ H', Ext H H' → Q (.tuple #[.agg #[.slice none 0 0, .int .i64 0, .int .i64 0], .int .i64 (insCode (treeV bl root cols) cols e)]) H')
    (h1 : ∀ S, treeV bl root cols = some S → insCode (treeV bl root cols) cols e = 0 → ∀ H' A' c' bl' l' dep, Ext H H' → OutT H' A' bl' cols l' dep → PutS S.out e l' → Q (.tuple #[.agg #[.slice A' bl'.length c', .int .i64 0, .int .i64 cols], .int .i64 0]) H') :
    HCalls Tryz.prog 25 [.agg #[.slice A n c, .int .i64 root, .int .i64 cols], enA e] H Q := by
  refine f25.ok _ _ _ _ _ _ _ _ _ ?_
  unfold f25
  refine c36 N hT hF (fun h H2 hx => ⟨_, _, rfl, ?_⟩) fun S h hl hk g gs oA oc H2 W => ⟨_, _, rfl, ?_⟩
  · refine jn_intro (fun J => ∀ H', Ext H H' → J true H') (fun H9 x9 => cndT rfl ?_) fun J hJ => cndT rfl (hJ H2 hx)
    have : insCode (treeV bl root cols) cols e = 2 := by rw [h]; rfl
    rw [this] at h0
    exact h0 (by decide) H9 x9
  have hob : S.out.length < huge := by unfold huge; omega
  obtain ⟨hs, hgd, hh, bt, a1, a2, a3, a4, a5⟩ := tree_of h
  have hent := good_ent hgd
  have hsrt := good_srt hgd
  have hW := W.ext
  have hcode : insCode (treeV bl root cols) cols e = if entB cols e = true then (if hasE S.out e = true then 14 else if 4000 ≤ S.out.length then 3 else 0) else 2 := by rw [h]; rfl
  refine jn_intro (fun J => (entB cols e = false → J true H2) ∧ (entB cols e = true → J false H2)) ⟨fun hb => cndT rfl ?_, fun hb => cndF rfl ?_⟩ fun J hJ => cndF rfl (c49 (N.ext hW) (hK.ext hW) ⟨_, rfl, ?_⟩)
  · rw [hcode, if_neg (by rw [hb]; decide)] at h0
    exact h0 (by decide) H2 hW
  · rw [hb] at hcode
    simp only [if_true] at hcode
    refine ⟨_, _, _, W.cl 5, c50 (outAt W hob) (fun x hx => (hk x hx).ext hW) (hK.ext hW) hsrt (by unfold big; omega) fun H14 x14 => ⟨_, _, rfl, cndI (fun hhas => ?_) fun hhas => ?_⟩⟩
    · rw [hcode, if_pos hhas] at h0
      exact h0 (by decide) H14 (hW.trans x14)
    have W14 := W.more x14
    rw [if_neg (by rw [hhas]; decide)] at hcode
    refine ⟨_, _, _, W14.cl 5, cndI (fun hlim => ?_) fun hlim => ?_⟩
    · have hlim := of_decide_eq_true hlim
      rw [hcode, if_pos (by omega)] at h0
      exact h0 (by decide) H14 W14.ext
    have hlim := of_decide_eq_false hlim
    rw [if_neg (by omega)] at hcode
    have hne := has_false hsrt hhas
    have hlenS : ∀ x ∈ S.out, x.key.length < big := fun x hx => by
      have := (ent_len (hent x hx)).1
      have := hs.2.1
      unfold big; omega
    have hke : e.key.length < big := by
      have := (ent_len hb).1
      have := hs.2.1
      unfold big; omega
    refine c52 (r := true) (bt := bt) hT W14.ext a1 a2 (fun x hx => hlenS x (by rw [a3]; exact hx)) fun H20 t x20 M Sp hid hsay Fu kt => ⟨_, rfl, ?_⟩
    refine c37n ((hK.ext W14.ext).ext x20) hke fun e' H23 x23 hsay' hke' hnw => ⟨_, _, _, _, rfl, ?_⟩
    rw [← a3] at hsay
    have M23 := M.ext x23
    have liveT := M.live
    have kX : ∀ x ∈ flatM hh t, KeyAt (hideH (ownM hh t) H23) x := fun x hx => ((kt x hx).1.ext x23).hide (kt x hx).2.2
    have keX : KeyAt (hideH (ownM hh t) H23) e' := hke'.hide fun _ q hq h1 => liveT q h1 (hnw q hq)
    have srtT : SrtE (flatM hh t) := srt_say hsay.symm hsrt
    have neT : ∀ x ∈ flatM hh t, ordE x e' ≠ 0 := fun x hx => by
      obtain ⟨y, hy, e1⟩ := say_mem hsay hx
      rw [← ord_say e1 hsay'.symm]; exact hne y hy
    refine c53 M23 Sp Fu hide_ext kX keX (fun q hq => hide_in hq) srtT neT fun H27 t' M27 S27 F27 hg27 P27 Fr27 => ⟨rfl, ?_⟩
    have hX27 : Ext (hideH (ownM hh t) H23) H27 := Fr27.ext hide_ext fun q hq => hide_in hq
    have hid27 := Fr27.hid hide_ext fun q hq => hide_in hq
    have hk27 : ∀ x ∈ flatM hh t', KeyAt (hideH (ownM hh t) H23) x := fun x hx => by
      rcases (P27.mem).1 hx with rfl | h
      · exact keX
      · exact kX x h
    have ent27 : ∀ x ∈ flatM hh t', entB cols x = true := fun x hx => by
      rcases (P27.mem).1 hx with rfl | h
      · rw [ent_say hsay']; exact hb
      · obtain ⟨y, hy, e1⟩ := say_mem hsay h
        rw [← ent_say e1]; exact hent y hy
    have len27 : (flatM hh t').length ≤ 4000 := by
      obtain ⟨a, b, q1, q2, _, _⟩ := P27
      have : (flatM hh t).length = S.out.length := by have := congrArg List.length hsay; simpa using this
      rw [q1] at this
      rw [q2]
      simp at this ⊢
      omega
    have srt27 := P27.srt srtT
    have hH : Ext H (hideH (ownM hh t) H23) := fun q o hq => by
      have h1 := x23 q o (x20 q o (W14.ext q o hq))
      show (if q ∈ ownM hh t then none else H23 q) = _
      rw [if_neg, h1]
      intro hm
      have := W14.ext.none (hid q hm)
      rw [this] at hq; cases hq
    refine jn_intro (fun J => ∀ (h' : Nat) (t2 : MT) (lo' : Nat) (H' : Hp), MemM H' h' t2 → FullM lo' 8 h' t2 → (h' = 0 ∨ 1 ≤ lo') → Ext (hideH (ownM hh t) H23) H' → flatM h' t2 = flatM hh t' → SepM h' t2 → (∀ q ∈ ownM h' t2, hideH (ownM hh t) H23 q = none) → J (some ⟨t2.g, 0, none⟩) H') (fun h' t2 lo' H' M2 F2 l2 X2 e2 _ _ => ?_) fun J hJ => ?_
    · refine c55 (lo := lo') M2 F2 l2 ⟨hs.1, hs.2.1⟩ ?_ (by rw [e2]; exact srt27) (by rw [e2]; exact ent27) (by rw [e2]; exact fun x hx => (hk27 x hx).ext X2) fun H5 A5 c5 bl5 x5 O5 => ⟨_, _, _, _, _, rfl, ?_⟩
      · have := size_le (F2.widen (hi' := 1000) (by omega))
        rw [e2] at this
        omega
      · rw [e2] at O5
        exact h1 S h hcode H5 A5 c5 bl5 _ _ (hH.trans (X2.trans x5)) O5 (P27.says hsay hsay')
    · rw [← hg27]
      exact out_root M27 S27 F27 (by
        cases hh with
        | zero => exact .inl rfl
        | succ hh => exact .inr a2.2.2.2.1) hX27 hid27 hk27 ⟨hs.1, hs.2.1⟩ srt27 ent27 len27 (J := J) hJ
  · cases hb : entB cols e with
    | true => exact hJ.2 hb
    | false => exact hJ.1 hb
end
end Go.Proofs.YtmelbipidffmpaaGreatDoor.Hw

/- Make: what asks all entries; the clone as a row. -/
set_option linter.unusedVariables false
set_option linter.unusedSimpArgs false
set_option linter.unusedSectionVars false
set_option maxRecDepth 20000
namespace Go.Proofs.YtmelbipidffmpaaGreatDoor.Hw
open Go Go.Proofs
section
variable {H : Hp} {A : Option Addr} {n c : Nat} {cols : Int} {Q : Value → Hp → Prop}
theorem c61 {e : EnM} {g : Nat} (N : NullAt H) (hK : KeyAt H e) (hg : cl H g 0 = some (.int .i64 cols)) (hq : Q (.bool (!entB cols e)) H) : HCalls Tryz.prog 61 [enA e, .pointer (some ⟨g, 0, none⟩)] H Q := by
  refine f61.ok _ _ _ _ _ _ ?_
  unfold f61
  exact ⟨cols, hg, c49 N hK ⟨_, rfl, hq⟩⟩
theorem c86 {l : List EnM} {g : Nat} (N : NullAt H) (hl : SlAt enC H A n l) (hk : ∀ e ∈ l, KeyAt H e) (hg : cl H g 0 = some (.int .i64 cols)) (hq : ∀ r : Int, decide (r ≥ 0) = !l.all (entB cols) → Q (.int .i64 r) H) : HCalls Tryz.prog 86 [.slice A n c, .func (.func 61) #[] #[.pointer (some ⟨g, 0, none⟩)]] H Q := by
  refine f86.ok _ _ _ _ _ _ ?_
  unfold f86
  obtain rfl := hl.len
  refine scan hl.lt (fun i H' => H' = H ∧ (l.take i).all (entB cols) = true) ⟨rfl, by simp⟩ (fun i H2 next hi hI hnext => ?_) (fun H2 next hI => ?_)
  · obtain ⟨rfl, hall⟩ := hI
    obtain ⟨x, hx⟩ := get_of hi
    dsimp only
    refine cndT (decide_eq_true (by omega)) ⟨by omega, by omega, rd_en hl hx fun q o _ k1 k2 => ⟨_, _, _, by simpa using k1, _, by simpa using k2, fnOk 61 rfl, c61 (e := x) N (hk x (List.mem_of_getElem? hx)) hg ⟨_, rfl, cndI (fun h => hq _ ?_) fun h => ⟨rfl, hnext H2 ⟨rfl, ?_⟩⟩⟩⟩⟩
    · rw [all_miss hx (by simpa using h), decide_eq_true (by omega)]; rfl
    · rw [all_take_succ hx, hall]
      have : entB cols x = true := by simpa using h
      rw [this]; rfl
  · obtain ⟨rfl, hall⟩ := hI
    rw [List.take_length] at hall
    dsimp only
    refine cndF (decide_eq_false (by omega)) (hq _ ?_)
    rw [hall]; rfl
theorem c60 {l : List EnM} {g : Nat} (N : NullAt H) (hl : SlAt enC H A n l) (hk : ∀ e ∈ l, KeyAt H e) (hg : cl H g 0 = some (.int .i64 cols)) (hq : Q (.bool (!l.all (entB cols))) H) : HCalls Tryz.prog 60 [.slice A n c, .func (.func 61) #[] #[.pointer (some ⟨g, 0, none⟩)]] H Q := by
  refine f60.ok _ _ _ _ _ _ ?_
  unfold f60
  exact c86 N hl hk hg fun r hr => ⟨r, rfl, by rw [hr]; exact hq⟩
/-- The clone, as a row that is new. -/
theorem c62r {l : List EnM} (hA : cellsAt H A (l.flatMap enC)) (hn : n = l.length) (hs : n * 32 ≤ 140737488355328) (hq : ∀ A' c' H', Ext H H' → Row H H' A' n c' 2 (l.flatMap enC) → Q (.slice A' n c') H') : HCalls Tryz.prog 62 [.slice A n c] H Q := by
  refine f62.ok _ _ _ ?_
  unfold f62
  have hfl : (l.flatMap enC).length = n * 2 := by rw [hn]; exact flat_length fun x _ => enC_len x
  refine cndI (fun h => ?_) fun h g1 hg1 => ?_
  · have hA0 : A = none := by cases A with | none => rfl | some a => cases h
    have h0 : l.flatMap enC = [] := by
      rcases hA with h' | ⟨b, o, e, _⟩
      · exact h'
      · rw [hA0] at e; cases e
    have hn0 : n = 0 := by rw [h0] at hfl; simp at hfl; omega
    subst hn0
    rw [h0] at hq
    exact hq none 0 H (Ext.refl _) Row.nil
  · have x1 : Ext H (upd g1 (Obj.cells [].toArray 46 (0, 0)) H) := Ext.new hg1
    have R0 : Row H (upd g1 (Obj.cells [].toArray 46 (0, 0)) H) (some ⟨g1, 0, none⟩) 0 0 2 [] := ⟨by simp, Nat.le_refl _, .inr ⟨g1, [], 46, rfl, upd_at, by simp, by simp, hg1⟩⟩
    refine R0.append x1 (cellsAt_ext x1 hA) hfl en_one (by omega) (by omega) fun A' c' H' R' x' _ _ _ => ?_
    rw [Nat.zero_add, List.nil_append] at R'
    have := hq A' c' H' x' R'
    rw [Nat.zero_add]
    exact this
end
end Go.Proofs.YtmelbipidffmpaaGreatDoor.Hw

/- What functions of the program come to, by the evaluator: printed by a program of this session (gen.py) and checked here. -/
set_option linter.unusedVariables false
set_option maxRecDepth 100000
namespace Go.Proofs.YtmelbipidffmpaaGreatDoor.Hs
open Go Go.Proofs Go.Proofs.YtmelbipidffmpaaGreatDoor.Hw

/-- cmp.isNaN[int] -/
def f98 (px : Int) (H : Hp) (Q : Value → Hp → Prop) : Prop :=
  Q (.bool ((px : Int) != px)) H
noncomputable def fcx98 : Cx := cxD 6 [] [] [] []
theorem f98.eq (px : Int) (H : Hp) (Q : Value → Hp → Prop) : f98 px H Q = wFun fcx98 Tryz.f98 [.int .i64 px] H Q := by kernel_rfl
theorem f98.ok (px : Int) {H : Hp} {Q : Value → Hp → Prop} (h : f98 px H Q) : HCallsG true Tryz.prog 98 [.int .i64 px] H Q := hcalls_of (cxOkD _ _ _ _ _) Tryz.func98 (Eq.mp (f98.eq px H Q) h)

/-- cmp.Compare[int] -/
def f77 (px : Int) (py : Int) (H : Hp) (Q : Value → Hp → Prop) : Prop :=
  HCallsG true Tryz.prog 98 [.int .i64 px] H fun v1 H2 => ∃ x3 : Bool, v1 = .bool x3 ∧ HCallsG true Tryz.prog 98 [.int .i64 py] H2 fun v4 H5 => ∃ x6 : Bool, v4 = .bool x6 ∧ cnd x3 (cnd x6 (Q (.int .i64 0) H5) (Q (.int .i64 (-1)) H5))
    (cnd x6 (Q (.int .i64 1) H5) (cnd (decide ((px : Int) < py)) (Q (.int .i64 (-1)) H5) (cnd (decide ((px : Int) > py)) (Q (.int .i64 1) H5) (Q (.int .i64 0) H5))))
noncomputable def fcx77 : Cx := cxD 20 [] [] [] []
theorem f77.eq (px : Int) (py : Int) (H : Hp) (Q : Value → Hp → Prop) : f77 px py H Q = wFun fcx77 Tryz.f77 [.int .i64 px, .int .i64 py] H Q := by kernel_rfl
theorem f77.ok (px : Int) (py : Int) {H : Hp} {Q : Value → Hp → Prop} (h : f77 px py H Q) : HCallsG true Tryz.prog 77 [.int .i64 px, .int .i64 py] H Q := hcalls_of (cxOkD _ _ _ _ _) Tryz.func77 (Eq.mp (f77.eq px py H Q) h)

/-- cmp.isNaN[justiciar api.Kind] -/
def f119 (px : Int) (H : Hp) (Q : Value → Hp → Prop) : Prop :=
  Q (.bool ((px : Int) != px)) H
noncomputable def fcx119 : Cx := cxD 6 [] [] [] []
theorem f119.eq (px : Int) (H : Hp) (Q : Value → Hp → Prop) : f119 px H Q = wFun fcx119 Tryz.f119 [.int .i64 px] H Q := by kernel_rfl
theorem f119.ok (px : Int) {H : Hp} {Q : Value → Hp → Prop} (h : f119 px H Q) : HCallsG true Tryz.prog 119 [.int .i64 px] H Q := hcalls_of (cxOkD _ _ _ _ _) Tryz.func119 (Eq.mp (f119.eq px H Q) h)

/-- cmp.Compare[justiciar api.Kind] -/
def f95 (px : Int) (py : Int) (H : Hp) (Q : Value → Hp → Prop) : Prop :=
  HCallsG true Tryz.prog 119 [.int .i64 px] H fun v1 H2 => ∃ x3 : Bool, v1 = .bool x3 ∧ HCallsG true Tryz.prog 119 [.int .i64 py] H2 fun v4 H5 => ∃ x6 : Bool, v4 = .bool x6 ∧ cnd x3 (cnd x6 (Q (.int .i64 0) H5) (Q (.int .i64 (-1)) H5))
    (cnd x6 (Q (.int .i64 1) H5) (cnd (decide ((px : Int) < py)) (Q (.int .i64 (-1)) H5) (cnd (decide ((px : Int) > py)) (Q (.int .i64 1) H5) (Q (.int .i64 0) H5))))
noncomputable def fcx95 : Cx := cxD 20 [] [] [] []
theorem f95.eq (px : Int) (py : Int) (H : Hp) (Q : Value → Hp → Prop) : f95 px py H Q = wFun fcx95 Tryz.f95 [.int .i64 px, .int .i64 py] H Q := by kernel_rfl
theorem f95.ok (px : Int) (py : Int) {H : Hp} {Q : Value → Hp → Prop} (h : f95 px py H Q) : HCallsG true Tryz.prog 95 [.int .i64 px, .int .i64 py] H Q := hcalls_of (cxOkD _ _ _ _ _) Tryz.func95 (Eq.mp (f95.eq px py H Q) h)

/-- cmp.Or[int] -/
def f76 (pvals_A : Option Addr) (pvals_n pvals_c : Nat) (H : Hp) (Q : Value → Hp → Prop) : Prop :=
  LoopF (σ := (Int × Unit) × Unit) ((0, ()), ()) H fun s1 H2 next3 => cnd (decide ((s1.1.1 : Int) < ((pvals_n : Nat) : Int))) (0 ≤ (s1.1.1 : Int) ∧ (s1.1.1 : Int) < ((pvals_n : Nat) : Int) ∧ onPtr pvals_A fun b4 o4 => ∃ x5
    : Int, cl H2 b4 (o4 + (s1.1.1 : Int).toNat * 1) = some (.int .i64 x5) ∧ cnd ((x5 : Int) != 0) (Q (.int .i64 x5) H2) (KeepX [some (.v (.int .i64 0)), some (.v (.slice pvals_A pvals_n pvals_c)), some (.v (.int .i64
    ((pvals_n : Nat) : Int)))] [] ∧ next3 ((IntKind.i64.wrap (s1.1.1 + 1), ()), ()) H2)) (Q (.int .i64 0) H2)
noncomputable def fcx76 : Cx := cxD 18 [] [(3, ⟨[3, 6, 7], [], [(8, .int .i64)], []⟩)] [] []
theorem f76.eq (pvals_A : Option Addr) (pvals_n pvals_c : Nat) (H : Hp) (Q : Value → Hp → Prop) : f76 pvals_A pvals_n pvals_c H Q = wFun fcx76 Tryz.f76 [.slice pvals_A pvals_n pvals_c] H Q := by kernel_rfl
theorem f76.ok (pvals_A : Option Addr) (pvals_n pvals_c : Nat) {H : Hp} {Q : Value → Hp → Prop} (h : f76 pvals_A pvals_n pvals_c H Q) : HCallsG true Tryz.prog 76 [.slice pvals_A pvals_n pvals_c] H Q := hcalls_of (cxOkD _ _ _ _ _) Tryz.func76 (Eq.mp (f76.eq pvals_A pvals_n pvals_c H Q) h)

/-- cmp.isNaN[string] -/
def f118 (px : ByteArray) (H : Hp) (Q : Value → Hp → Prop) : Prop :=
  Q (.bool (!(px.toList == px.toList))) H
noncomputable def fcx118 : Cx := cxD 6 [] [] [] []
theorem f118.eq (px : ByteArray) (H : Hp) (Q : Value → Hp → Prop) : f118 px H Q = wFun fcx118 Tryz.f118 [.string px] H Q := by kernel_rfl
theorem f118.ok (px : ByteArray) {H : Hp} {Q : Value → Hp → Prop} (h : f118 px H Q) : HCallsG true Tryz.prog 118 [.string px] H Q := hcalls_of (cxOkD _ _ _ _ _) Tryz.func118 (Eq.mp (f118.eq px H Q) h)

/-- cmp.Compare[string] -/
def f94 (px : ByteArray) (py : ByteArray) (H : Hp) (Q : Value → Hp → Prop) : Prop :=
  HCallsG true Tryz.prog 118 [.string px] H fun v1 H2 => ∃ x3 : Bool, v1 = .bool x3 ∧ HCallsG true Tryz.prog 118 [.string py] H2 fun v4 H5 => ∃ x6 : Bool, v4 = .bool x6 ∧ cnd x3 (cnd x6 (Q (.int .i64 0) H5) (Q (.int .i64 (-1)) H5))
    (cnd x6 (Q (.int .i64 1) H5) (cnd (Op.bytesLess px.toList py.toList) (Q (.int .i64 (-1)) H5) (cnd (!(Op.bytesLess px.toList py.toList || px.toList == py.toList)) (Q (.int .i64 1) H5) (Q (.int .i64 0) H5))))
noncomputable def fcx94 : Cx := cxD 20 [] [] [] []
theorem f94.eq (px : ByteArray) (py : ByteArray) (H : Hp) (Q : Value → Hp → Prop) : f94 px py H Q = wFun fcx94 Tryz.f94 [.string px, .string py] H Q := by kernel_rfl
theorem f94.ok (px : ByteArray) (py : ByteArray) {H : Hp} {Q : Value → Hp → Prop} (h : f94 px py H Q) : HCallsG true Tryz.prog 94 [.string px, .string py] H Q := hcalls_of (cxOkD _ _ _ _ _) Tryz.func94 (Eq.mp (f94.eq px py H Q) h)

/-- justiciar valid.Order -/
def f72 (pa_0 : Int) (pa_1 : Int) (pa_2 : ByteArray) (pb_0 : Int) (pb_1 : Int) (pb_2 : ByteArray) (H : Hp) (Q : Value → Hp → Prop) : Prop :=
  cnd ((pa_0 : Int) == pb_0) (HCallsG true Tryz.prog 77 [.int .i64 pa_1, .int .i64 pb_1] H fun v1 H2 => ∃ x3 : Int, v1 = .int .i64 x3 ∧ HCallsG true Tryz.prog 94 [.string pa_2, .string pb_2] H2 fun v4 H5 => ∃ x6 : Int, v4 = .int .i64
    x6 ∧ newF H5 3 [.int .i64 x3, .int .i64 x6] fun g7 H8 => HCallsG true Tryz.prog 76 [.slice (some ⟨g7, 0, none⟩) 2 2] H8 fun v9 H10 => ∃ x11 : Int, v9 = .int .i64 x11 ∧ Q (.int .i64 x11) H10) (cnd ((pa_0 : Int) == 0) (Q
    (.int .i64 1) H) (cnd ((pb_0 : Int) == 0) (Q (.int .i64 (-1)) H) (HCallsG true Tryz.prog 95 [.int .i64 pa_0, .int .i64 pb_0] H fun v12 H13 => ∃ x14 : Int, v12 = .int .i64 x14 ∧ Q (.int .i64 x14) H13)))
noncomputable def fcx72 : Cx := cxD 36 [(2, true), (3, true)] [] [(2, (.look 0 (.look 1 (.look 2 (.look 3 (.look 5 (.look 6 (.look 7 (.look 8 (.act 4 (.act 9 (.act 10 (.act 11 (.act 12 .done .done) .done) .done) .done) .done))))))))))] []
theorem f72.eq (pa_0 : Int) (pa_1 : Int) (pa_2 : ByteArray) (pb_0 : Int) (pb_1 : Int) (pb_2 : ByteArray) (H : Hp) (Q : Value → Hp → Prop) : f72 pa_0 pa_1 pa_2 pb_0 pb_1 pb_2 H Q = wFun fcx72 Tryz.f72 [.agg #[.int .i64 pa_0, .int .i64 pa_1, .string pa_2], .agg #[.int .i64 pb_0, .int .i64 pb_1, .string pb_2]] H Q := by kernel_rfl
theorem f72.ok (pa_0 : Int) (pa_1 : Int) (pa_2 : ByteArray) (pb_0 : Int) (pb_1 : Int) (pb_2 : ByteArray) {H : Hp} {Q : Value → Hp → Prop} (h : f72 pa_0 pa_1 pa_2 pb_0 pb_1 pb_2 H Q) : HCallsG true Tryz.prog 72 [.agg #[.int .i64 pa_0, .int .i64 pa_1, .string pa_2], .agg #[.int .i64 pb_0, .int .i64 pb_1, .string pb_2]] H Q := hcalls_of (cxOkD _ _ _ _ _) Tryz.func72 (Eq.mp (f72.eq pa_0 pa_1 pa_2 pb_0 pb_1 pb_2 H Q) h)

/-- slices.CompareFunc[[]justiciar api.Value,[]justiciar api.Value,justiciar api.Value,justiciar api.Value] -/
def f71 (psb_A : Option Addr) (psb_n psb_c : Nat) (psc_A : Option Addr) (psc_n psc_c : Nat) (pcmp_f : FuncId) (pcmp_a pcmp_c : Array Value) (H : Hp) (Q : Value → Hp → Prop) : Prop :=
  LoopF (σ := (Int × Unit) × Unit) ((0, ()), ()) H fun s1 H2 next3 => cnd (decide ((s1.1.1 : Int) < ((psb_n : Nat) : Int))) (0 ≤ (s1.1.1 : Int) ∧ (s1.1.1 : Int) < ((psb_n : Nat) : Int) ∧ onPtr psb_A fun b4 o4 => ∃ x5 : Int,
    cl H2 b4 (o4 + (s1.1.1 : Int).toNat * 3) = some (.int .i64 x5) ∧ ∃ x6 : Int, cl H2 b4 ((o4 + (s1.1.1 : Int).toNat * 3) + 1) = some (.int .i64 x6) ∧ ∃ s7 : ByteArray, cl H2 b4 (((o4 + (s1.1.1 : Int).toNat * 3) + 1) +
    1) = some (.string s7) ∧ cnd (decide ((s1.1.1 : Int) ≥ ((psc_n : Nat) : Int))) (Q (.int .i64 1) H2) (0 ≤ (s1.1.1 : Int) ∧ (s1.1.1 : Int) < ((psc_n : Nat) : Int) ∧ onPtr psc_A fun b8 o8 => ∃ x9 : Int, cl H2 b8 (o8 +
    (s1.1.1 : Int).toNat * 3) = some (.int .i64 x9) ∧ ∃ x10 : Int, cl H2 b8 ((o8 + (s1.1.1 : Int).toNat * 3) + 1) = some (.int .i64 x10) ∧ ∃ s11 : ByteArray, cl H2 b8 (((o8 + (s1.1.1 : Int).toNat * 3) + 1) + 1) = some
    (.string s11) ∧ FnOk Tryz.prog pcmp_f ∧ HCallsG true Tryz.prog pcmp_f (pcmp_a.toList ++ [.agg #[.int .i64 x5, .int .i64 x6, .string s7], .agg #[.int .i64 x9, .int .i64 x10, .string s11]] ++ pcmp_c.toList) H2 fun v12 H13 =>
    ∃ x14 : Int, v12 = .int .i64 x14 ∧ cnd ((x14 : Int) != 0) (Q (.int .i64 x14) H13) (KeepX [some (.v (.slice psb_A psb_n psb_c)), some (.v (.slice psc_A psc_n psc_c)), some (.v (.func (.func pcmp_f) pcmp_a pcmp_c)),
    some (.v (.slice psb_A psb_n psb_c)), some (.v (.int .i64 ((psb_n : Nat) : Int)))] [] ∧ next3 ((IntKind.i64.wrap (s1.1.1 + 1), ()), ()) H13))) (cnd (decide ((((psb_n : Nat) : Int) : Int) < ((psc_n : Nat) : Int))) (Q
    (.int .i64 (-1)) H2) (Q (.int .i64 0) H2))
noncomputable def fcx71 : Cx := cxD 39 [(8, true), (9, true)] [(2, ⟨[0, 1, 2, 11, 12], [], [(13, .int .i64)], []⟩)] [] []
theorem f71.eq (psb_A : Option Addr) (psb_n psb_c : Nat) (psc_A : Option Addr) (psc_n psc_c : Nat) (pcmp_f : FuncId) (pcmp_a pcmp_c : Array Value) (H : Hp) (Q : Value → Hp → Prop) : f71 psb_A psb_n psb_c psc_A psc_n psc_c pcmp_f pcmp_a pcmp_c H Q = wFun fcx71 Tryz.f71 [.slice psb_A psb_n psb_c, .slice psc_A psc_n psc_c, .func (.func pcmp_f) pcmp_a pcmp_c] H Q := by kernel_rfl
theorem f71.ok (psb_A : Option Addr) (psb_n psb_c : Nat) (psc_A : Option Addr) (psc_n psc_c : Nat) (pcmp_f : FuncId) (pcmp_a pcmp_c : Array Value) {H : Hp} {Q : Value → Hp → Prop} (h : f71 psb_A psb_n psb_c psc_A psc_n psc_c pcmp_f pcmp_a pcmp_c H Q) : HCallsG true Tryz.prog 71 [.slice psb_A psb_n psb_c, .slice psc_A psc_n psc_c, .func (.func pcmp_f) pcmp_a pcmp_c] H Q := hcalls_of (cxOkD _ _ _ _ _) Tryz.func71 (Eq.mp (f71.eq psb_A psb_n psb_c psc_A psc_n psc_c pcmp_f pcmp_a pcmp_c H Q) h)

/-- justiciar valid.Rows -/
def f41 (pa_A : Option Addr) (pa_n pa_c : Nat) (pb_A : Option Addr) (pb_n pb_c : Nat) (H : Hp) (Q : Value → Hp → Prop) : Prop :=
  HCallsG true Tryz.prog 71 [.slice pa_A pa_n pa_c, .slice pb_A pb_n pb_c, .func (.func 72) #[] #[]] H fun v1 H2 => ∃ x3 : Int, v1 = .int .i64 x3 ∧ Q (.int .i64 x3) H2
noncomputable def fcx41 : Cx := cxD 8 [] [] [] []
theorem f41.eq (pa_A : Option Addr) (pa_n pa_c : Nat) (pb_A : Option Addr) (pb_n pb_c : Nat) (H : Hp) (Q : Value → Hp → Prop) : f41 pa_A pa_n pa_c pb_A pb_n pb_c H Q = wFun fcx41 Tryz.f41 [.slice pa_A pa_n pa_c, .slice pb_A pb_n pb_c] H Q := by kernel_rfl
theorem f41.ok (pa_A : Option Addr) (pa_n pa_c : Nat) (pb_A : Option Addr) (pb_n pb_c : Nat) {H : Hp} {Q : Value → Hp → Prop} (h : f41 pa_A pa_n pa_c pb_A pb_n pb_c H Q) : HCallsG true Tryz.prog 41 [.slice pa_A pa_n pa_c, .slice pb_A pb_n pb_c] H Q := hcalls_of (cxOkD _ _ _ _ _) Tryz.func41 (Eq.mp (f41.eq pa_A pa_n pa_c pb_A pb_n pb_c H Q) h)

/-- justiciar tree.order -/
def f51 (pa_0_A : Option Addr) (pa_0_n pa_0_c : Nat) (pa_1 : Int) (pb_0_A : Option Addr) (pb_0_n pb_0_c : Nat) (pb_1 : Int) (H : Hp) (Q : Value → Hp → Prop) : Prop :=
  HCallsG true Tryz.prog 41 [.slice pa_0_A pa_0_n pa_0_c, .slice pb_0_A pb_0_n pb_0_c] H fun v1 H2 => ∃ x3 : Int, v1 = .int .i64 x3 ∧ HCallsG true Tryz.prog 77 [.int .i64 pa_1, .int .i64 pb_1] H2 fun v4 H5 => ∃ x6 : Int, v4 = .int .i64
    x6 ∧ newF H5 3 [.int .i64 x3, .int .i64 x6] fun g7 H8 => HCallsG true Tryz.prog 76 [.slice (some ⟨g7, 0, none⟩) 2 2] H8 fun v9 H10 => ∃ x11 : Int, v9 = .int .i64 x11 ∧ Q (.int .i64 x11) H10
noncomputable def fcx51 : Cx := cxD 17 [(2, true), (3, true)] [] [(1, (.look 0 (.look 1 (.look 2 (.look 3 (.look 5 (.look 6 (.look 7 (.look 8 (.act 4 (.act 9 (.act 10 (.act 11 (.act 12 .done .done) .done) .done) .done) .done))))))))))] []
theorem f51.eq (pa_0_A : Option Addr) (pa_0_n pa_0_c : Nat) (pa_1 : Int) (pb_0_A : Option Addr) (pb_0_n pb_0_c : Nat) (pb_1 : Int) (H : Hp) (Q : Value → Hp → Prop) : f51 pa_0_A pa_0_n pa_0_c pa_1 pb_0_A pb_0_n pb_0_c pb_1 H Q = wFun fcx51 Tryz.f51 [.agg #[.slice pa_0_A pa_0_n pa_0_c, .int .i64 pa_1], .agg #[.slice pb_0_A pb_0_n pb_0_c, .int .i64 pb_1]] H Q := by kernel_rfl
theorem f51.ok (pa_0_A : Option Addr) (pa_0_n pa_0_c : Nat) (pa_1 : Int) (pb_0_A : Option Addr) (pb_0_n pb_0_c : Nat) (pb_1 : Int) {H : Hp} {Q : Value → Hp → Prop} (h : f51 pa_0_A pa_0_n pa_0_c pa_1 pb_0_A pb_0_n pb_0_c pb_1 H Q) : HCallsG true Tryz.prog 51 [.agg #[.slice pa_0_A pa_0_n pa_0_c, .int .i64 pa_1], .agg #[.slice pb_0_A pb_0_n pb_0_c, .int .i64 pb_1]] H Q := hcalls_of (cxOkD _ _ _ _ _) Tryz.func51 (Eq.mp (f51.eq pa_0_A pa_0_n pa_0_c pa_1 pb_0_A pb_0_n pb_0_c pb_1 H Q) h)

end Go.Proofs.YtmelbipidffmpaaGreatDoor.Hs

/- The order of entries, where draws are counted. -/
set_option linter.unusedVariables false
set_option linter.unusedSimpArgs false
set_option linter.unusedSectionVars false
set_option maxRecDepth 20000
namespace Go.Proofs.YtmelbipidffmpaaGreatDoor.Hs
open Go Go.Proofs Go.Proofs.YtmelbipidffmpaaGreatDoor.Hw
section
variable {H : Hp} {Q : Value → Hp → Prop}
theorem c98 {x : Int} (hq : Q (.bool false) H) : HCallsG true Tryz.prog 98 [.int .i64 x] H Q := by
  refine f98.ok _ ?_
  unfold f98
  simpa using hq
theorem c119 {x : Int} (hq : Q (.bool false) H) : HCallsG true Tryz.prog 119 [.int .i64 x] H Q := by
  refine f119.ok _ ?_
  unfold f119
  simpa using hq
theorem c77 {x y : Int} (hq : Q (.int .i64 (cmpI x y)) H) : HCallsG true Tryz.prog 77 [.int .i64 x, .int .i64 y] H Q := by
  refine f77.ok _ _ ?_
  unfold f77
  unfold cmpI at hq
  refine c98 ⟨false, rfl, c98 ⟨false, rfl, cndF rfl (cndF rfl (cndI (fun h => ?_) fun h => cndI (fun h2 => ?_) fun h2 => ?_))⟩⟩
  · rw [if_pos (of_decide_eq_true h)] at hq; exact hq
  · rw [if_neg (of_decide_eq_false h), if_pos (of_decide_eq_true h2)] at hq; exact hq
  · rw [if_neg (of_decide_eq_false h), if_neg (of_decide_eq_false h2)] at hq; exact hq
theorem c95 {x y : Int} (hq : Q (.int .i64 (cmpI x y)) H) : HCallsG true Tryz.prog 95 [.int .i64 x, .int .i64 y] H Q := by
  refine f95.ok _ _ ?_
  unfold f95
  unfold cmpI at hq
  refine c119 ⟨false, rfl, c119 ⟨false, rfl, cndF rfl (cndF rfl (cndI (fun h => ?_) fun h => cndI (fun h2 => ?_) fun h2 => ?_))⟩⟩
  · rw [if_pos (of_decide_eq_true h)] at hq; exact hq
  · rw [if_neg (of_decide_eq_false h), if_pos (of_decide_eq_true h2)] at hq; exact hq
  · rw [if_neg (of_decide_eq_false h), if_neg (of_decide_eq_false h2)] at hq; exact hq
theorem c76 {A : Option Addr} {n k : Nat} {l : List Int} (hA : SlAt inC H A n l) (hq : Q (.int .i64 (orL l)) H) : HCallsG true Tryz.prog 76 [.slice A n k] H Q := by
  refine f76.ok _ _ _ ?_
  unfold f76
  obtain rfl := hA.len
  have hlt := hA.lt
  refine scan hlt (fun i H' => H' = H ∧ ∀ y ∈ l.take i, (y != 0) = false) ⟨rfl, fun y hy => by simp at hy⟩ ?_ ?_
  · rintro i H next hi ⟨rfl, hI⟩ hnext
    obtain ⟨y, hy⟩ := get_of hi
    dsimp only
    refine cndT (decide_eq_true (by omega)) ⟨by omega, by omega, rd_in hA hy fun q o _ hc => ⟨y, by simpa using hc, cndI (fun h => ?_) (fun h => ⟨rfl, hnext _ ⟨rfl, fun z hz => ?_⟩⟩)⟩⟩
    · have : l.find? (fun x => x != 0) = some y := by
        obtain ⟨h1, h2⟩ := List.getElem?_eq_some_iff.1 hy
        rw [← List.take_append_drop i l, List.find?_append, List.find?_eq_none.2 (fun z hz => by rw [hI z hz]; decide), List.drop_eq_getElem_cons h1, h2, List.find?_cons, h]
        rfl
      unfold orL at hq
      rw [this] at hq; exact hq
    · rw [take_snoc hy] at hz
      rcases List.mem_append.1 hz with hz | hz
      · exact hI z hz
      · obtain rfl := List.mem_singleton.1 hz; exact h
  · rintro H next ⟨rfl, hI⟩
    rw [List.take_length] at hI
    have : l.find? (fun x => x != 0) = none := List.find?_eq_none.2 fun z hz => by rw [hI z hz]; decide
    unfold orL at hq
    rw [this] at hq
    dsimp only
    exact cndF (decide_eq_false (by omega)) hq
theorem c118 {x : ByteArray} (hq : Q (.bool false) H) : HCallsG true Tryz.prog 118 [.string x] H Q := by
  refine f118.ok _ ?_
  unfold f118
  rw [show (x.toList == x.toList) = true from beq_iff_eq.2 rfl]; exact hq
theorem c94 {x y : ByteArray} (hq : Q (.int .i64 (cmpS x y)) H) : HCallsG true Tryz.prog 94 [.string x, .string y] H Q := by
  refine f94.ok _ _ ?_
  unfold f94
  unfold cmpS lessS at hq
  refine c118 ⟨false, rfl, c118 ⟨false, rfl, cndF rfl (cndF rfl (cndI (fun h => ?_) fun h => cndI (fun h2 => ?_) fun h2 => ?_))⟩⟩
  · rw [if_pos h] at hq; exact hq
  · rw [h] at h2 hq
    have : (x.toList == y.toList) = false := by simpa using h2
    rw [this] at hq
    simpa using hq
  · rw [h] at h2 hq
    have : (x.toList == y.toList) = true := by simpa using h2
    rw [this] at hq
    simpa using hq
theorem c72 {a b : Vl} (hq : ∀ H', Ext H H' → Q (.int .i64 (ordV a b)) H') : HCallsG true Tryz.prog 72 [vlA a, vlA b] H Q := by
  refine f72.ok _ _ _ _ _ _ ?_
  unfold f72
  unfold ordV at hq
  refine cndI (fun h => ?_) fun h => ?_
  · rw [if_pos h] at hq
    refine c77 ⟨_, rfl, c94 ⟨_, rfl, fun g7 hg7 => ?_⟩⟩
    have s := fresh_sl (H := H) (g := g7) (ty := 3) (f := inC) (l := [cmpI a.num b.num, cmpS a.txt b.txt]) (vs := [Value.int .i64 (cmpI a.num b.num), .int .i64 (cmpS a.txt b.txt)]) rfl (by simp [huge])
    have x8 : Ext H (upd g7 (Obj.cells [Value.int .i64 (cmpI a.num b.num), .int .i64 (cmpS a.txt b.txt)].toArray 3 (0, 0)) H) := Ext.new hg7
    refine c76 s ⟨_, rfl, ?_⟩
    rw [orL_two]
    exact hq _ x8
  · rw [if_neg (by rw [h]; decide)] at hq
    refine cndI (fun h1 => ?_) fun h1 => ?_
    · rw [if_pos h1] at hq; exact hq H (Ext.refl _)
    · rw [if_neg (by rw [h1]; decide)] at hq
      refine cndI (fun h2 => ?_) fun h2 => ?_
      · rw [if_pos h2] at hq; exact hq H (Ext.refl _)
      · rw [if_neg (by rw [h2]; decide)] at hq
        exact c95 ⟨_, rfl, hq H (Ext.refl _)⟩
theorem c71 {A B : Option Addr} {n m ca cb : Nat} {x y : List Vl} (hA : SlAt vlC H A n x) (hB : SlAt vlC H B m y) (hq : ∀ H', Ext H H' → Q (.int .i64 (ordL x y)) H') : HCallsG true Tryz.prog 71 [.slice A n ca, .slice B m cb, .func (.func 72) #[] #[]] H Q := by
  refine f71.ok _ _ _ _ _ _ _ _ _ ?_
  unfold f71
  obtain rfl := hA.len
  obtain rfl := hB.len
  have hl1 := hA.lt
  have hl2 := hB.lt
  refine scan hl1 (fun i H' => Ext H H' ∧ i ≤ y.length ∧ ordL x y = ordL (x.drop i) (y.drop i)) ⟨Ext.refl _, Nat.zero_le _, rfl⟩ (fun i H2 next hi hI hnext => ?_) (fun H2 next hI => ?_)
  · obtain ⟨hx2, hiy, he⟩ := hI
    obtain ⟨a, ha⟩ := get_of hi
    dsimp only
    refine cndT (decide_eq_true (by omega)) ⟨by omega, by omega, rd_vl (hA.ext hx2) ha fun q o _ k1 k2 k3 => ⟨a.kind, by simpa using k1, a.num, by simpa using k2, a.txt, by simpa using k3, cndI (fun h => ?_) fun h => ?_⟩⟩
    · have h := of_decide_eq_true h
      have : i = y.length := by omega
      have hd : y.drop i = [] := by rw [this]; exact List.drop_length
      have hxd : x.drop i = a :: x.drop (i + 1) := by rw [List.drop_eq_getElem_cons hi, (List.getElem?_eq_some_iff.1 ha).2]
      rw [he, hd, hxd] at hq
      exact hq H2 hx2
    · have h := of_decide_eq_false h
      obtain ⟨b, hb⟩ := get_of (l := y) (i := i) (by omega)
      have hod := ordL_drop ha hb
      refine ⟨by omega, by omega, rd_vl (hB.ext hx2) hb fun q o _ k1 k2 k3 => ⟨b.kind, by simpa using k1, b.num, by simpa using k2, b.txt, by simpa using k3, fnOk 72 rfl, c72 (a := a) (b := b) fun H13 x13 => ⟨_, rfl, cndI (fun hne => ?_) fun he0 => ⟨rfl, hnext H13 ⟨hx2.trans x13, by omega, ?_⟩⟩⟩⟩⟩
      · rw [he, hod, if_pos hne] at hq
        exact hq H13 (hx2.trans x13)
      · rw [he, hod, if_neg (by rw [he0]; decide)]
  · obtain ⟨hx2, hiy, he⟩ := hI
    rw [List.drop_length] at he
    dsimp only
    refine cndF (decide_eq_false (by omega)) (cndI (fun h => ?_) fun h => ?_)
    · have h := of_decide_eq_true h
      obtain ⟨b, hb⟩ := get_of (l := y) (i := x.length) (by omega)
      rw [List.drop_eq_getElem_cons (by omega)] at he
      rw [he] at hq
      exact hq H2 hx2
    · have h := of_decide_eq_false h
      rw [show y.drop x.length = [] from List.drop_of_length_le (by omega)] at he
      rw [he] at hq
      exact hq H2 hx2
theorem c41 {A B : Option Addr} {n m ca cb : Nat} {x y : List Vl} (hA : SlAt vlC H A n x) (hB : SlAt vlC H B m y) (hq : ∀ H', Ext H H' → Q (.int .i64 (ordL x y)) H') : HCallsG true Tryz.prog 41 [.slice A n ca, .slice B m cb] H Q := by
  refine f41.ok _ _ _ _ _ _ ?_
  unfold f41
  exact c71 hA hB fun H' hx => ⟨_, rfl, hq H' hx⟩
theorem c51 {a b : EnM} (ha : KeyAt H a) (hb : KeyAt H b) (hq : ∀ H', Ext H H' → Q (.int .i64 (ordE a b)) H') : HCallsG true Tryz.prog 51 [enA a, enA b] H Q := by
  refine f51.ok _ _ _ _ _ _ _ _ ?_
  unfold f51
  refine c41 ha.sl hb.sl fun H2 x2 => ⟨_, rfl, c77 ⟨_, rfl, fun g7 hg7 => ?_⟩⟩
  have s := fresh_sl (H := H2) (g := g7) (ty := 3) (f := inC) (l := [ordL a.key b.key, cmpI a.id b.id]) (vs := [Value.int .i64 (ordL a.key b.key), .int .i64 (cmpI a.id b.id)]) rfl (by simp [huge])
  refine c76 s ⟨_, rfl, ?_⟩
  rw [orL_two]
  exact hq _ (x2.trans (Ext.new hg7))
end
end Go.Proofs.YtmelbipidffmpaaGreatDoor.Hs

/- slices.SortFunc of entries, by the kit's contract. -/
set_option linter.unusedVariables false
set_option linter.unusedSimpArgs false
set_option linter.unusedSectionVars false
set_option maxRecDepth 20000
namespace Go.Proofs.YtmelbipidffmpaaGreatDoor.Hw
open Go Go.Proofs Go.Sort Go.Shelf
theorem grow_of {w w' : World} (h : Fr true (fun _ => none) w w') : ∃ q os, w' = grow (w.drewN q) os := by
  obtain ⟨h1, h2, h3, h4, h5, h6⟩ := h
  have h6 := h6 rfl
  refine ⟨w'.drawn - w.drawn, w'.heap.extract w.heap.size w'.heap.size, ?_⟩
  have hh : w'.heap = w.heap ++ w'.heap.extract w.heap.size w'.heap.size := by
    apply Array.ext_getElem?
    intro i
    by_cases hi : i < w.heap.size
    · rw [Array.getElem?_append_left hi, h5 i hi rfl]
    · rw [Array.getElem?_append_right (by omega), Array.getElem?_extract]
      by_cases hi2 : i < w'.heap.size
      · rw [if_pos (by omega), show w.heap.size + (i - w.heap.size) = i by omega]
      · rw [if_neg (by omega), Array.getElem?_eq_none (by omega)]
  have hd : w'.drawn = w.drawn + (w'.drawn - w.drawn) := by omega
  obtain ⟨a, b, c, d, e⟩ := w'
  simp only at h1 h2 h3 hh hd
  unfold grow World.drewN
  simp only [World.mk.injEq]
  exact ⟨hh, h2, hd, h1, h3⟩
theorem closureE {X : Hp} {a b : EnM} (ha : KeyAt X a) (hb : KeyAt X b) (W : World) (hw : Has W X) : Calls Tryz.prog 51 #[enA a, enA b] W fun e w' => e = .returned (.int .i64 (ordE a b)) ∧ ∃ q os', w' = grow (W.drewN q) os' := by
  have := Hs.c51 (Q := fun v H' => v = .int .i64 (ordE a b) ∧ Ext X H') ha hb (fun H' hx => ⟨rfl, hx⟩) W hw
  refine Calls.mono this ?_
  rintro e w' ⟨v, H', rfl, ⟨rfl, hx⟩, hh, hf, _⟩
  refine ⟨rfl, grow_of ?_⟩
  obtain ⟨f1, f2, f3, f4, f5, f6⟩ := hf
  refine ⟨f1, f2, f3, f4, fun b hb _ => ?_, f6⟩
  cases hH : X b with
  | none => exact f5 b hb hH
  | some o => rw [hh b o (hx b o hH), hw b o hH]
/-! ### the order, for the kit -/
abbrev EK (X : Hp) : Type := {e : EnM // KeyAt X e}
def encK (X : Hp) (x : EK X) : List Value := enC x.1
def ordK (X : Hp) (x y : EK X) : Int := ordE x.1 y.1
theorem ordK_t {X : Hp} {x y : EK X} : ltOf (ordK X) x y = true ↔ ordE x.1 y.1 < 0 := by unfold ltOf ordK; rw [decide_eq_true_eq]
theorem ordK_f {X : Hp} {x y : EK X} : ltOf (ordK X) x y = false ↔ ¬ ordE x.1 y.1 < 0 := by rw [← ordK_t]; simp
theorem swoK {X : Hp} : SWO (ltOf (ordK X)) where
  irrefl x := ordK_f.2 (by rw [ordE_ok.self]; omega)
  trans x y z h1 h2 := ordK_t.2 (ordE_ok.lt_of (ordK_t.1 h1) (by have := ordK_t.1 h2; omega))
  ntrans x y z h1 h2 := ordK_f.2 fun h => by
    have h1 := ordK_f.1 h1
    have h2 := ordK_f.1 h2
    have a1 := ordE_ok.anti x.1 y.1
    have a2 := ordE_ok.anti y.1 z.1
    have a3 := ordE_ok.anti x.1 z.1
    have := ordE_ok.tr z.1 y.1 x.1 (by omega) (by omega)
    omega
theorem flatK_is {X : Hp} [Inhabited (EK X)] {l : List (EK X)} : (flatK (encK X) 2 l.toArray) = (l.flatMap (encK X)).toArray := by
  apply Array.ext_getElem?
  intro i
  show (flatK (encK X) 2 l.toArray)[i]? = ((l.flatMap (encK X)).toArray)[i]?
  have hfl : (l.flatMap (encK X)).length = l.length * 2 := flat_length fun y _ => rfl
  by_cases hi : i < l.length * 2
  · have h1 := get_flatK (encK X) 2 l.toArray i (by simpa using hi)
    obtain ⟨x, hx⟩ := get_of (l := l) (i := i / 2) (by omega)
    have h2 := flat_get (f := encK X) (k := 2) (j := i % 2) (fun x _ => rfl) hx (by omega)
    rw [show i / 2 * 2 + i % 2 = i by omega] at h2
    have hs : i < (flatK (encK X) 2 l.toArray).size := by rw [size_flatK]; simpa using hi
    have e1 : ((l.flatMap (encK X)).toArray)[i]? = (l.flatMap (encK X))[i]? := by simp
    rw [e1, h2, Array.getElem?_eq_getElem hs]
    rw [getElem!_pos (flatK (encK X) 2 l.toArray) i hs] at h1
    rw [h1]
    have : l.toArray[i / 2]! = x := by
      have hl : i / 2 < l.length := by omega
      rw [getElem!_pos l.toArray (i / 2) (by simpa using hl)]
      obtain ⟨_, e⟩ := List.getElem?_eq_some_iff.1 hx
      simpa using e
    rw [this]
    have h4 : i % 2 < (encK X x).length := by show _ < 2; omega
    rw [getElem!_pos (encK X x) (i % 2) h4, List.getElem?_eq_getElem h4]
  · rw [Array.getElem?_eq_none (by rw [size_flatK]; simpa using hi), List.getElem?_toArray, List.getElem?_eq_none (by omega)]
end Go.Proofs.YtmelbipidffmpaaGreatDoor.Hw

/- slices.SortFunc of entries: the contract. -/
set_option linter.unusedVariables false
set_option linter.unusedSimpArgs false
set_option linter.unusedSectionVars false
set_option maxRecDepth 20000
namespace Go.Proofs.YtmelbipidffmpaaGreatDoor.Hw
open Go Go.Proofs Go.Sort Go.Shelf
section
variable {H0 H : Hp} {Q : Value → Hp → Prop} {w : World}
theorem putV {vs cs : List Value} (h : vs.length ≤ cs.length) : putCells id 0 vs.toArray cs.toArray = (vs ++ cs.drop vs.length).toArray := by
  apply Array.ext'
  unfold putCells
  rw [Array.toList_mapIdx]
  apply List.ext_getElem?
  intro j
  simp only [List.getElem?_mapIdx, Nat.zero_le, true_and, Nat.zero_add, List.size_toArray, Nat.sub_zero]
  by_cases hj : j < vs.length
  · rw [List.getElem?_append_left hj, List.getElem?_eq_getElem (by omega : j < cs.length), List.getElem?_eq_getElem hj]
    simp [hj]
  · rw [List.getElem?_append_right (by omega), List.getElem?_drop, show vs.length + (j - vs.length) = j by omega]
    cases hc : cs[j]? with
    | none => simp [hc]
    | some v => simp [hc, hj]
theorem row_putV {b m : Nat} {cs vs : List Value} {ty : Nat} {os : Array Obj} (hw : Has w H) (hb : H b = some (.cells cs.toArray ty (0, 0))) (h : vs.length ≤ cs.length) :
    Has (grow (putRow id (Sort.ahead w m) b 0 vs.toArray) os) (upd b (.cells (vs ++ cs.drop vs.length).toArray ty (0, 0)) H) ∧ Fr true H w (grow (putRow id (Sort.ahead w m) b 0 vs.toArray) os) ∧ New H w (upd b (.cells (vs ++ cs.drop vs.length).toArray ty (0, 0)) H) := by
  have hwb := hw b _ hb
  have hlt : b < w.heap.size := (Array.getElem?_eq_some_iff.1 hwb).1
  have hat : ∀ x, x < w.heap.size → (grow (putRow id (Sort.ahead w m) b 0 vs.toArray) os).heap[x]? = if x = b then some (.cells (vs ++ cs.drop vs.length).toArray ty (0, 0)) else w.heap[x]? := fun x hx => by
    unfold grow putRow mapBlock Sort.ahead
    simp only
    rw [Array.getElem?_append_left (by simpa using hx), Array.getElem?_modify]
    by_cases e : b = x
    · subst e
      rw [if_pos rfl, if_pos rfl, hwb]
      simp only [Option.map_eq_map, Option.map_some, onCells]
      rw [putV h]
    · rw [if_neg e, if_neg (fun e' => e e'.symm)]
  refine ⟨fun x o hx => ?_, ⟨rfl, rfl, rfl, ?_, fun x hx hn => ?_, fun _ => ?_⟩, fun x hx => ?_⟩
  · rcases upd_some hx with ⟨rfl, rfl⟩ | ⟨hne, hx⟩
    · rw [hat x hlt, if_pos rfl]
    · rw [hat x (Array.getElem?_eq_some_iff.1 (hw x o hx)).1, if_neg hne]; exact hw x o hx
  · unfold grow putRow mapBlock Sort.ahead; simp
  · rw [hat x hx, if_neg (fun e => by subst e; rw [hb] at hn; cases hn)]
  · unfold grow putRow mapBlock Sort.ahead; simp
  · by_cases e : x = b
    · subst e; left; rw [hb]; simp
    · rw [upd_other e] at hx; exact .inl hx
theorem has_sw {b m : Nat} {vs : List Value} {os : Array Obj} (hw : Has w H) (hx : Ext H0 H) (hz : H0 b = none) : Has (grow (putRow id (Sort.ahead w m) b 0 vs.toArray) os) H0 := fun q o hq => by
  have hwq := hw q o (hx q o hq)
  have hlt : q < w.heap.size := (Array.getElem?_eq_some_iff.1 hwq).1
  have hne : ¬ b = q := fun e => by subst e; rw [hz] at hq; cases hq
  unfold grow putRow mapBlock Sort.ahead
  simp only
  rw [Array.getElem?_append_left (by simpa using hlt), Array.getElem?_modify, if_neg hne]
  exact hwq
theorem c63 {A : Option Addr} {c : Nat} {l : List EnM} (R : Row H0 H A l.length c 2 (l.flatMap enC)) (hx : Ext H0 H) (hkey : ∀ e ∈ l, KeyAt H0 e) (hs : l.length < huge)
    (hq : ∀ (l' : List EnM) (H' : Hp), l'.Perm l → l'.Pairwise (fun x y => ¬ ordE y x < 0) → Row H0 H' A l'.length c 2 (l'.flatMap enC) → Ext H0 H' → (∀ q, ¬ rowB A q → H q ≠ none → H' q = H q) → Q (.tuple #[]) H') :
    HCalls Tryz.prog 63 [.slice A l.length c, .func (.func 51) #[] #[]] H Q := by
  intro w hw
  by_cases h0 : l = []
  · subst h0
    refine Calls.mono (AnyF.slices_SortFunc_none Tryz.sortEnt A c _ w) ?_
    rintro e w' ⟨rfl, rfl⟩
    exact ⟨_, H, rfl, hq [] H (List.Perm.refl _) List.Pairwise.nil R hx (fun q _ _ => rfl), hw, ⟨rfl, rfl, rfl, Nat.le_refl _, fun _ _ _ => rfl, fun _ => Nat.le_refl _⟩, fun b hb => .inl hb⟩
  obtain ⟨h1, h2, h3 | ⟨b, cs, ty, rfl, hb, hcl, ht, hz⟩⟩ := R
  · have : 0 < l.length := List.length_pos_iff.2 h0
    omega
  unfold huge at hs
  have hwb := hw b _ hb
  have hlt : b < w.heap.size := (Array.getElem?_eq_some_iff.1 hwb).1
  obtain ⟨x0, hx0⟩ : ∃ x0, x0 ∈ l := by
    cases l with
    | nil => exact absurd rfl h0
    | cons x r => exact ⟨x, List.mem_cons_self ..⟩
  haveI : Inhabited (EK H0) := ⟨⟨x0, hkey x0 hx0⟩⟩
  obtain ⟨L, hL⟩ : ∃ L : List (EK H0), L.map Subtype.val = l := ⟨l.attach.map fun x => ⟨x.1, hkey x.1 x.2⟩, by rw [List.map_map]; exact List.attach_map_subtype_val l⟩
  have hLl : L.length = l.length := by rw [← hL, List.length_map]
  have hLf : L.flatMap (encK H0) = l.flatMap enC := by rw [← hL, List.flatMap_map]; rfl
  have hH : HoldsK (encK H0) 2 w b 0 L.toArray := by
    unfold HoldsK
    rw [flatK_is, hLf]
    intro j hj
    have hj' : j < (l.flatMap enC).length := by simpa using hj
    refine ⟨?_, frz_of w hwb⟩
    rw [cl_of w hwb, Nat.zero_add]
    have h1' : (cs.take (l.length * 2))[j]? = cs[j]? := by rw [List.getElem?_take_of_lt (by omega)]
    rw [← h1', ht, List.getElem?_eq_getElem hj']
    simp
    rw [List.getElem?_eq_getElem hj']; rfl
  have eg : ∀ args w, (callFunc 51 args).run Tryz.prog w = .ok (.enter 51 args) w := enters_of Tryz.func51 (by kernel_rfl) rfl
  have lays : CmpLays Tryz.prog 51 #[] (encK H0) 2 (ordK H0) b 0 L.toArray.size w := fun m os dk hsz x y => by
    refine closureE x.2 y.2 _ ?_
    unfold sortWorldK putRowK
    have : dk = dk.toList.toArray := by simp
    rw [this, flatK_is]
    exact has_sw hw hx hz
  have hcon := AnyQ.slices_SortFunc Tryz.sortEnt 2 Tryz.isAgg46 Tryz.sizeOf46 (encK H0) (fun x => enC_len x.1) (fun x => enC_one x.1) (ordK H0) swoK 51 #[] b 0 c L.toArray w eg lays hH hlt (by simpa [hLl] using (by omega : l.length < 4611686018427387904))
  simp only [List.size_toArray, hLl] at hcon
  change Calls Tryz.prog 63 _ w _ at hcon
  refine Calls.mono hcon ?_
  rintro e w' ⟨rfl, d', m, os, hp, hsrt, rfl⟩
  obtain ⟨p1, _, p3⟩ := hp
  have hd' : d'.size = l.length := by rw [p1]; simp [hLl]
  obtain ⟨L', hL'⟩ : ∃ L' : List (EK H0), L' = d'.toList := ⟨_, rfl⟩
  have hdL : d' = L'.toArray := by rw [hL']
  have hL'l : L'.length = l.length := by rw [hL']; simpa using hd'
  have hperm : L'.Perm L := by
    rw [Array.extract_eq_self_of_le (by omega), Array.extract_eq_self_of_le (by simp [hLl])] at p3
    rw [hL']; simpa using p3
  have hsorted : L'.Pairwise (fun x y => ¬ ordE y.1 x.1 < 0) := by
    rw [List.pairwise_iff_getElem]
    intro i j hi hj hij
    have := hsrt i j (Nat.zero_le _) hij (by omega)
    have gi : ∀ k (hk : k < L'.length), d'[k]! = L'[k] := fun k hk => by
      rw [hdL, getElem!_pos _ k (by simpa using hk)]
      simp
    rw [gi i hi, gi j hj] at this
    exact ordK_f.1 this
  have hl' : (L'.map Subtype.val).length = l.length := by rw [List.length_map]; exact hL'l
  have hfl : ((L'.map Subtype.val).flatMap enC).length = l.length * 2 := by rw [flat_length (fun y _ => enC_len y), hl']
  have hff : L'.flatMap (encK H0) = (L'.map Subtype.val).flatMap enC := by rw [List.flatMap_map]; rfl
  obtain ⟨g1, g2, g3⟩ := row_putV (m := m) (os := os) (vs := (L'.map Subtype.val).flatMap enC) hw hb (by omega)
  have e : sortWorldK (encK H0) 2 w b 0 m d' os = grow (putRow id (Sort.ahead w m) b 0 ((L'.map Subtype.val).flatMap enC).toArray) os := by
    unfold sortWorldK putRowK
    rw [hdL, flatK_is, hff]
  rw [e]
  have hperm' : (L'.map Subtype.val).Perm l := by rw [← hL]; exact hperm.map _
  refine ⟨_, _, rfl, hq (L'.map Subtype.val) _ hperm' (by rw [List.pairwise_map]; exact hsorted) ⟨by rw [hfl, hl'], by rw [hl']; exact h2, .inr ⟨b, _, ty, rfl, upd_at, ?_, ?_, hz⟩⟩ (hx.upd hz) (fun q hq' _ => ?_), g1, g2.weak, g3⟩
  · rw [List.length_append, List.length_drop, hfl]; omega
  · rw [List.take_left' (by rw [hfl, hl'])]
  · exact upd_off fun e => hq' ⟨0, none, by rw [e]⟩
end
end Go.Proofs.YtmelbipidffmpaaGreatDoor.Hw
