/- Cf Cg Ch Ci Cj Ck Cl Da Db Dc De HwFg Cm (joined by merge.py) -/
import Derived.Test.YtmelbipidffmpaaGreatDoorTt7
import Derived.Test.YtmelbipidffmpaaGreatDoorTt6
import Derived.Test.YtmelbipidffmpaaGreatDoorTt3
/- Nodes: what lies apart; insert at a leaf. -/
set_option linter.unusedVariables false
set_option linter.unusedSimpArgs false
set_option linter.unusedSectionVars false
set_option maxRecDepth 20000
namespace Go.Proofs.YtmelbipidffmpaaGreatDoor.Hw
open Go Go.Proofs
def Apart (h : Nat) (u v : MT) : Prop := ∀ q ∈ ownM h u, q ∉ ownM h v
def SepM : Nat → MT → Prop
  | 0, t => (own1 t).Nodup
  | h + 1, t => (own1 t).Nodup ∧ (∀ u ∈ t.ks, SepM h u ∧ ∀ q ∈ ownM h u, q ∉ own1 t) ∧ t.ks.Pairwise (Apart h)
theorem SepM.one {h : Nat} {t : MT} (S : SepM h t) : (own1 t).Nodup := by
  cases h with
  | zero => exact S
  | succ h => exact S.1
theorem own_mem {h : Nat} {t : MT} {q : Nat} : q ∈ ownM (h + 1) t ↔ q ∈ own1 t ∨ ∃ u ∈ t.ks, q ∈ ownM h u := by
  show q ∈ own1 t ++ t.ks.flatMap (ownM h) ↔ _
  rw [List.mem_append, List.mem_flatMap]
section
variable {H H' : Hp} {h : Nat} {t t' u : MT} {K1 K2 L : List MT}
/-- One kid gives way to some. -/
theorem sep_replace (S : SepM (h + 1) t) (hk : t.ks = K1 ++ u :: K2) (hlive : ∀ q ∈ ownM (h + 1) t, H q ≠ none) (hL : ∀ v ∈ L, SepM h v) (hLp : L.Pairwise (Apart h)) (hLn : ∀ v ∈ L, ∀ q ∈ ownM h v, q ∈ ownM h u ∨ H q = none)
    (ht : t'.ks = K1 ++ (L ++ K2)) (ho : (own1 t').Nodup) (hoq : ∀ q ∈ own1 t', q ∈ own1 t ∨ (H q = none ∧ ∀ v ∈ L, q ∉ ownM h v)) : SepM (h + 1) t' := by
  obtain ⟨s1, s2, s3⟩ := S
  rw [hk] at s2 s3
  rw [List.pairwise_append] at s3
  obtain ⟨p1, p2, p3⟩ := s3
  rw [List.pairwise_cons] at p2
  obtain ⟨p4, p5⟩ := p2
  have lv : ∀ v, v ∈ K1 ∨ v ∈ K2 → ∀ q ∈ ownM h v, H q ≠ none := fun v hv q hq => hlive q (own_mem.2 (.inr ⟨v, by rw [hk]; rcases hv with hv | hv <;> simp [hv], hq⟩))
  have sep : ∀ v, v ∈ K1 ∨ v ∈ K2 → ∀ q ∈ ownM h v, q ∉ ownM h u := fun v hv q hq hu => by
    rcases hv with hv | hv
    · exact p3 v hv u (List.mem_cons_self ..) q hq hu
    · exact p4 v hv q hu hq
  refine ⟨ho, fun v hv => ?_, ?_⟩
  · rw [ht] at hv
    have old : v ∈ K1 ∨ v ∈ K2 → SepM h v ∧ ∀ q ∈ ownM h v, q ∉ own1 t' := fun hv => by
      have hv' : v ∈ K1 ++ u :: K2 := by rcases hv with hv | hv <;> simp [hv]
      refine ⟨(s2 v hv').1, fun q hq ho' => ?_⟩
      rcases hoq q ho' with h' | h'
      · exact (s2 v hv').2 q hq h'
      · exact lv v hv q hq h'.1
    rcases List.mem_append.1 hv with hv | hv
    · exact old (.inl hv)
    · rcases List.mem_append.1 hv with hv | hv
      · refine ⟨hL v hv, fun q hq ho' => ?_⟩
        rcases hoq q ho' with h' | h'
        · rcases hLn v hv q hq with h2 | h2
          · exact (s2 u (by simp)).2 q h2 h'
          · exact hlive q (own_mem.2 (.inl h')) h2
        · exact h'.2 v hv hq
      · exact old (.inr hv)
  · rw [ht, List.pairwise_append, List.pairwise_append]
    have new : ∀ v ∈ L, ∀ w, w ∈ K1 ∨ w ∈ K2 → ∀ q ∈ ownM h v, q ∉ ownM h w := fun v hv w hw q hq hqw => by
      rcases hLn v hv q hq with h' | h'
      · exact sep w hw q hqw h'
      · exact lv w hw q hqw h'
    refine ⟨p1, ⟨hLp, p5, fun v hv w hw => new v hv w (.inr hw)⟩, fun v hv w hw => ?_⟩
    rcases List.mem_append.1 hw with hw | hw
    · exact fun q hq hqw => new w hw v (.inl hv) q hqw hq
    · exact p3 v hv w (List.mem_cons_of_mem _ hw)
theorem kids_split {α : Type} {l : List α} {i : Nat} {x : α} (hx : l[i]? = some x) : l = l.take i ++ x :: l.drop (i + 1) := by
  obtain ⟨h1, h2⟩ := List.getElem?_eq_some_iff.1 hx
  conv => lhs; rw [← List.take_append_drop i l, List.drop_eq_getElem_cons h1, h2]
theorem flat_split (hk : t.ks = K1 ++ u :: K2) {E1 E2 : List EnM} (he : t.es = E1 ++ E2) (hl : K1.length = E1.length) : flatM (h + 1) t = zipE (K1.map (flatM h)) E1 ++ flatM h u ++ restE (K2.map (flatM h)) E2 := by
  show inter (t.ks.map (flatM h)) t.es = _
  rw [hk, he, List.map_append, List.map_cons, inter_app (by rw [List.length_map]; exact hl), inter_head, List.append_assoc]
theorem cnt_lt {l : List EnM} {e x : EnM} {i : Nat} (hi : i < cntE l e) (hx : l[i]? = some x) : ordE x e < 0 := of_decide_eq_true (tw_lt (p := fun x => decide (ordE x e < 0)) hi hx)
theorem cnt_ge {l : List EnM} {e x : EnM} {i : Nat} (hs : SrtE l) (hi : cntE l e ≤ i) (hx : l[i]? = some x) : ¬ ordE x e < 0 := of_decide_eq_false (tw_ge (p := fun x => decide (ordE x e < 0)) (cnt_mono hs e) hi hx)
theorem cnt_le {l : List EnM} {e : EnM} : cntE l e ≤ l.length := tw_le
theorem ord_flip {x e : EnM} (h1 : ¬ ordE x e < 0) (h2 : ordE x e ≠ 0) : ordE e x < 0 := by have := ordE_ok.anti x e; omega
theorem Put.here {l : List EnM} {e : EnM} (hs : SrtE l) (hne : ∀ x ∈ l, ordE x e ≠ 0) : Put l e (l.take (cntE l e) ++ e :: l.drop (cntE l e)) := by
  refine ⟨l.take (cntE l e), l.drop (cntE l e), (List.take_append_drop _ _).symm, rfl, fun x hx => ?_, fun x hx => ?_⟩
  · obtain ⟨i, hi⟩ := List.mem_iff_getElem?.1 hx
    have hlt := (List.getElem?_eq_some_iff.1 hi).1
    rw [List.length_take] at hlt
    rw [List.getElem?_take_of_lt (by omega)] at hi
    exact cnt_lt (by omega) hi
  · obtain ⟨i, hi⟩ := List.mem_iff_getElem?.1 hx
    rw [List.getElem?_drop] at hi
    exact ord_flip (cnt_ge hs (by omega) hi) (hne x (List.mem_of_mem_drop hx))
theorem flat_ins {α : Type} {f : α → List Value} {k i : Nat} {l : List α} {x : α} (hf : ∀ x, (f x).length = k) : (l.flatMap f).take (i * k) ++ f x ++ (l.flatMap f).drop (i * k) = (l.take i ++ x :: l.drop i).flatMap f := by
  rw [flat_take hf, flat_drop hf, List.flatMap_append, List.flatMap_cons, List.append_assoc]
theorem en_one {l : List EnM} : ∀ v ∈ l.flatMap enC, v.oneCell' = true := fun v hv => by obtain ⟨x, _, hx⟩ := List.mem_flatMap.1 hv; exact enC_one x v hx
theorem pt_one {l : List MT} : ∀ v ∈ l.flatMap ptC, v.oneCell' = true := fun v hv => by obtain ⟨x, _, hx⟩ := List.mem_flatMap.1 hv; exact ptC_one x v hx
/-- An entry is put into a node's own entries, the number of the place given. -/
theorem insE {t : MT} {e : EnM} {i : Nat} {K : Hp → Prop} (N : NodeM H t) (nd : (own1 t).Nodup) (hi : i ≤ t.es.length) (hs : t.es.length < 1000)
    (hk : ∀ H' A' c', NodeM H' (.mk t.g A' c' (t.es.take i ++ e :: t.es.drop i) t.kA t.kc t.ks) → (own1 (.mk t.g A' c' (t.es.take i ++ e :: t.es.drop i) t.kA t.kc t.ks)).Nodup → FrM H H' (own1 t) (own1 (.mk t.g A' c' (t.es.take i ++ e :: t.es.drop i) t.kA t.kc t.ks)) → K H') :
    newF H 46 (enC e) fun g7 H8 => HCalls Tryz.prog 79 [.slice t.eA t.es.length t.ec, .int .i64 (i : Int), .slice (some ⟨g7, 0, none⟩) 1 1] H8 fun v9 H10 => ∃ (A11 : Option Addr) (n11 c11 : Nat), v9 = .slice A11 n11 c11 ∧ storeF H10 t.g (0 + 0) [.slice A11 n11 c11] K := by
  intro g7 hg7
  obtain ⟨n1, n2, n3⟩ := nd1 nd
  have x8 : Ext H (upd g7 (.cells (enC e).toArray 46 (0, 0)) H) := Ext.new hg7
  have N8 := N.ext x8
  refine f79.ok _ _ _ _ _ _ _ ?_
  rw [f79_is]
  refine ins_ok (x := enC e) N8.er (by omega) rfl rfl (enC_one e) en_one hi (by unfold big; omega) (by omega) upd_at (fun h => N.er.live h hg7) fun A' c' H10 R10 F10 => ⟨_, _, _, rfl, ?_⟩
  rw [flat_ins enC_len] at R10
  have hl : (t.es.take i ++ e :: t.es.drop i).length = t.es.length + 1 := by simp; omega
  have tl : H t.g ≠ none := N.live t.g (by simp [own1])
  have nA : ∀ q, rowB A' q → rowB t.eA q ∨ H q = none := fun q hq => (F10.nw q hq).imp id fun h => x8.none h
  have h1 : ¬ rowB A' t.g := fun h => by
    rcases nA _ h with h | h
    · exact n1 h
    · exact tl h
  have keep : ∀ q, ¬ rowB t.eA q → (upd g7 (.cells (enC e).toArray 46 (0, 0)) H) q ≠ none → H10 q = (upd g7 (.cells (enC e).toArray 46 (0, 0)) H) q := fun q hq hn => Classical.byContradiction fun hne => by
    rcases F10.ch q hne with h | h
    · exact hq h
    · exact hn h
  obtain ⟨ty, hc⟩ := N8.cell
  have hc10 : ∃ ty, H10 t.g = some (.cells (nodeC t.eA t.es.length t.ec t.kA t.ks.length t.kc).toArray ty (0, 0)) := ⟨ty, (keep _ n1 (by rw [hc]; simp)).trans hc⟩
  have k10 : RowO H10 t.kA t.ks.length t.kc 1 (t.ks.flatMap ptC) := N8.kr.keep fun q hq hn => keep q (fun h => n3 q h hq) hn
  refine setE' hc10 k10 hl.symm (by rw [hl]; exact R10) h1 n2 fun H12 N12 off lv => hk H12 A' c' N12 (nd_mk h1 n2 fun q hq hkq => ?_) ⟨fun q hq => ?_, fun q hq => ?_, fun q hq => ?_⟩
  · rcases nA q hq with h | h
    · exact n3 q h hkq
    · exact N.kr.live hkq h
  · by_cases e1 : q = t.g
    · subst e1; exact .inl (by simp [own1])
    · rw [off q e1] at hq
      by_cases e2 : H10 q = (upd g7 (.cells (enC e).toArray 46 (0, 0)) H) q
      · rw [e2] at hq
        by_cases e3 : q = g7
        · subst e3; exact .inr hg7
        · rw [upd_off e3] at hq; exact absurd rfl hq
      · rcases F10.ch q e2 with h | h
        · exact .inl (by simp [own1, blk_row, h])
        · exact .inr (x8.none h)
  · rcases List.mem_cons.1 hq with h | h
    · exact .inl (by rw [h]; simp [own1, MT.g])
    · rcases List.mem_append.1 h with h | h
      · rcases nA q (blk_row.1 h) with h | h
        · exact .inl (by simp [own1, blk_row, h])
        · exact .inr h
      · exact .inl (by simp only [own1, List.mem_cons, List.mem_append]; exact .inr (.inr h))
  · by_cases e1 : q = t.g
    · subst e1; exact lv
    · rw [off q e1]
      exact F10.al q fun e => hq ((ext_at x8 hq).symm.trans e)
/-- A kid is put into a node's own kids. -/
theorem insK {t v : MT} {i : Nat} {K : Hp → Prop} (N : NodeM H t) (nd : (own1 t).Nodup) (hi : i ≤ t.ks.length) (hs : t.ks.length < 1000)
    (hk : ∀ H' A' c', NodeM H' (.mk t.g t.eA t.ec t.es A' c' (t.ks.take i ++ v :: t.ks.drop i)) → (own1 (.mk t.g t.eA t.ec t.es A' c' (t.ks.take i ++ v :: t.ks.drop i))).Nodup → FrM H H' (own1 t) (own1 (.mk t.g t.eA t.ec t.es A' c' (t.ks.take i ++ v :: t.ks.drop i))) → K H') :
    newF H 86 [.pointer (some ⟨v.g, 0, none⟩)] fun g7 H8 => HCalls Tryz.prog 80 [.slice t.kA t.ks.length t.kc, .int .i64 (i : Int), .slice (some ⟨g7, 0, none⟩) 1 1] H8 fun v9 H10 => ∃ (A11 : Option Addr) (n11 c11 : Nat), v9 = .slice A11 n11 c11 ∧ storeF H10 t.g (0 + 1) [.slice A11 n11 c11] K := by
  intro g7 hg7
  obtain ⟨n1, n2, n3⟩ := nd1 nd
  have x8 : Ext H (upd g7 (.cells (ptC v).toArray 86 (0, 0)) H) := Ext.new hg7
  have N8 := N.ext x8
  refine f80.ok _ _ _ _ _ _ _ ?_
  rw [f80_is]
  refine ins_ok (x := ptC v) N8.kr (by omega) rfl rfl (ptC_one v) pt_one hi (by unfold big; omega) (by omega) upd_at (fun h => N.kr.live h hg7) fun A' c' H10 R10 F10 => ⟨_, _, _, rfl, ?_⟩
  rw [flat_ins ptC_len] at R10
  have hl : (t.ks.take i ++ v :: t.ks.drop i).length = t.ks.length + 1 := by simp; omega
  have tl : H t.g ≠ none := N.live t.g (by simp [own1])
  have nA : ∀ q, rowB A' q → rowB t.kA q ∨ H q = none := fun q hq => (F10.nw q hq).imp id fun h => x8.none h
  have h1 : ¬ rowB A' t.g := fun h => by
    rcases nA _ h with h | h
    · exact n2 h
    · exact tl h
  have keep : ∀ q, ¬ rowB t.kA q → (upd g7 (.cells (ptC v).toArray 86 (0, 0)) H) q ≠ none → H10 q = (upd g7 (.cells (ptC v).toArray 86 (0, 0)) H) q := fun q hq hn => Classical.byContradiction fun hne => by
    rcases F10.ch q hne with h | h
    · exact hq h
    · exact hn h
  obtain ⟨ty, hc⟩ := N8.cell
  have hc10 : ∃ ty, H10 t.g = some (.cells (nodeC t.eA t.es.length t.ec t.kA t.ks.length t.kc).toArray ty (0, 0)) := ⟨ty, (keep _ n2 (by rw [hc]; simp)).trans hc⟩
  have k10 : RowO H10 t.eA t.es.length t.ec 2 (t.es.flatMap enC) := N8.er.keep fun q hq hn => keep q (fun h => n3 q hq h) hn
  refine setK' hc10 k10 hl.symm (by rw [hl]; exact R10) h1 n1 fun H12 N12 off lv => hk H12 A' c' N12 (nd_mk n1 h1 fun q hq hkq => ?_) ⟨fun q hq => ?_, fun q hq => ?_, fun q hq => ?_⟩
  · rcases nA q hkq with h | h
    · exact n3 q hq h
    · exact N.er.live hq h
  · by_cases e1 : q = t.g
    · subst e1; exact .inl (by simp [own1])
    · rw [off q e1] at hq
      by_cases e2 : H10 q = (upd g7 (.cells (ptC v).toArray 86 (0, 0)) H) q
      · rw [e2] at hq
        by_cases e3 : q = g7
        · subst e3; exact .inr hg7
        · rw [upd_off e3] at hq; exact absurd rfl hq
      · rcases F10.ch q e2 with h | h
        · exact .inl (by simp [own1, blk_row, h])
        · exact .inr (x8.none h)
  · rcases List.mem_cons.1 hq with h | h
    · exact .inl (by rw [h]; simp [own1, MT.g])
    · rcases List.mem_append.1 h with h | h
      · exact .inl (by simp only [own1, List.mem_cons, List.mem_append]; exact .inr (.inl h))
      · rcases nA q (blk_row.1 h) with h | h
        · exact .inl (by simp [own1, blk_row, h])
        · exact .inr h
  · by_cases e1 : q = t.g
    · subst e1; exact lv
    · rw [off q e1]
      exact F10.al q fun e => hq ((ext_at x8 hq).symm.trans e)
end
end Go.Proofs.YtmelbipidffmpaaGreatDoor.Hw

/- Nodes: split, of whole trees. -/
set_option linter.unusedVariables false
set_option linter.unusedSimpArgs false
set_option linter.unusedSectionVars false
set_option maxRecDepth 20000
namespace Go.Proofs.YtmelbipidffmpaaGreatDoor.Hw
open Go Go.Proofs
theorem inter_mid {α : Type} {x : α} : ∀ {K1 K2 : List (List α)} {E1 E2 : List α}, K1.length = E1.length + 1 → inter (K1 ++ K2) (E1 ++ x :: E2) = inter K1 E1 ++ x :: inter K2 E2
  | [], _, E1, _, h => by simp at h
  | k :: K1, K2, [], E2, h => by
    have : K1 = [] := List.eq_nil_of_length_eq_zero (by simpa using h)
    subst this
    show k ++ x :: inter K2 E2 = (k ++ inter [] []) ++ x :: inter K2 E2
    simp [inter]
  | k :: K1, K2, e :: E1, E2, h => by
    show k ++ e :: inter (K1 ++ K2) (E1 ++ x :: E2) = (k ++ e :: inter K1 E1) ++ x :: inter K2 E2
    rw [inter_mid (by simpa using h)]
    simp
section
variable {H H' : Hp} {h lo : Nat} {t u : MT} {Q : Value → Hp → Prop}
theorem FullM.ks_len (F : FullM lo 9 h t) : t.ks = [] ∨ t.ks.length = t.es.length + 1 := by
  cases h with
  | zero => exact .inl F.1
  | succ h => exact .inr F.1
theorem FullM.top {hi : Nat} (F : FullM lo hi h t) : lo ≤ t.es.length ∧ t.es.length ≤ hi := by
  cases h with
  | zero => exact ⟨F.2.1, F.2.2⟩
  | succ h => exact ⟨F.2.1, F.2.2.1⟩
theorem c54m (M : MemM H h t) (S : SepM h t) (F : FullM lo 9 h t) (h8 : 8 < t.es.length)
    (hq : ∀ H' tl tr mid, MemM H' h tl → MemM H' h tr → SepM h tl → SepM h tr → Apart h tl tr → FullM 3 8 h tl → FullM 3 8 h tr → tl.g = t.g → flatM h t = flatM h tl ++ mid :: flatM h tr →
      (∀ q ∈ ownM h tl, q ∈ ownM h t ∨ H q = none) → (∀ q ∈ ownM h tr, q ∈ ownM h t ∨ H q = none) → FrM H H' (ownM h t) (ownM h t) → Q (.tuple #[enA mid, .pointer (some ⟨tr.g, 0, none⟩)]) H') :
    HCalls Tryz.prog 54 [.pointer (some ⟨t.g, 0, none⟩)] H Q := by
  have h9 := F.top.2
  have hlen : t.es.length = 9 := by omega
  refine c54 M.node h8 (by omega) F.ks_len S.one fun H' tl tr mid hmid Nl Nr e1 e2 e3 e4 e5 e6 ndr nwr Fr => ?_
  rw [hlen] at hmid e2 e3 e4 e5
  have hmid : t.es[4]? = some mid := hmid
  have e2 : tl.es = t.es.take 4 := e2
  have e3 : tl.ks = t.ks.take 5 := e3
  have e4 : tr.es = t.es.drop 5 := e4
  have e5 : tr.ks = t.ks.drop 5 := e5
  have hes : t.es = t.es.take 4 ++ mid :: t.es.drop 5 := kids_split hmid
  have frw : FrM H H' (ownM h t) (ownM h t) := ⟨fun q hq => (Fr.ch q hq).imp own1_sub id, fun q hq => .inl hq, Fr.al⟩
  have ll : tl.es.length = 4 := by rw [e2, List.length_take]; omega
  have lr : tr.es.length = 4 := by rw [e4, List.length_drop]; omega
  cases h with
  | zero =>
    have hk0 : t.ks = [] := F.1
    rw [hk0] at e3 e5
    exact hq H' tl tr mid ⟨Nl, e3⟩ ⟨Nr, e5⟩ (by show (own1 tl).Nodup; rw [e6]; exact S) ndr (fun q h1 h2 => by
      have h1 : q ∈ own1 tl := h1
      rw [e6] at h1
      exact M.node.live q h1 (nwr q h2)) ⟨e3, by omega, by omega⟩ ⟨e5, by omega, by omega⟩ e1 (by
      show t.es = tl.es ++ mid :: tr.es
      rw [e2, e4]; exact hes) (fun q h1 => .inl (by have h1 : q ∈ own1 tl := h1; rw [e6] at h1; exact h1)) (fun q h1 => .inr (nwr q h1)) frw
  | succ h =>
    obtain ⟨s1, s2, s3⟩ := S
    obtain ⟨f1, f2, f3, f4⟩ := F
    have hksl : t.ks.length = 10 := by omega
    have hkk : t.ks = tl.ks ++ tr.ks := by rw [e3, e5]; exact (List.take_append_drop 5 t.ks).symm
    have ml : ∀ v ∈ tl.ks, v ∈ t.ks := fun v hv => by rw [hkk]; exact List.mem_append_left _ hv
    have mr : ∀ v ∈ tr.ks, v ∈ t.ks := fun v hv => by rw [hkk]; exact List.mem_append_right _ hv
    have mem' : ∀ v ∈ t.ks, MemM H' h v := fun v hv => (M.2 v hv).keep fun q hq => Fr.off ((s2 v hv).2 q hq) ((M.2 v hv).live q hq)
    rw [hkk] at s3
    rw [List.pairwise_append] at s3
    obtain ⟨p1, p2, p3⟩ := s3
    have lkl : tl.ks.length = 5 := by rw [e3, List.length_take]; omega
    have lkr : tr.ks.length = 5 := by rw [e5, List.length_drop]; omega
    refine hq H' tl tr mid ⟨Nl, fun v hv => mem' v (ml v hv)⟩ ⟨Nr, fun v hv => mem' v (mr v hv)⟩ ⟨by rw [e6]; exact s1, fun v hv => ⟨(s2 v (ml v hv)).1, fun q hq => by rw [e6]; exact (s2 v (ml v hv)).2 q hq⟩, p1⟩
      ⟨ndr, fun v hv => ⟨(s2 v (mr v hv)).1, fun q hq h2 => (M.2 v (mr v hv)).live q hq (nwr q h2)⟩, p2⟩ (fun q h1 h2 => ?_) ⟨by omega, by omega, by omega, fun v hv => f4 v (ml v hv)⟩ ⟨by omega, by omega, by omega, fun v hv => f4 v (mr v hv)⟩ e1 ?_ (fun q h1 => ?_) (fun q h1 => ?_) frw
    · rcases own_mem.1 h1 with h1 | ⟨v, hv, h1⟩
      · rw [e6] at h1
        rcases own_mem.1 h2 with h2 | ⟨w, hw, h2⟩
        · exact M.node.live q h1 (nwr q h2)
        · exact (s2 w (mr w hw)).2 q h2 h1
      · rcases own_mem.1 h2 with h2 | ⟨w, hw, h2⟩
        · exact (M.2 v (ml v hv)).live q h1 (nwr q h2)
        · exact p3 v hv w hw q h1 h2
    · show inter (t.ks.map (flatM h)) t.es = inter (tl.ks.map (flatM h)) tl.es ++ mid :: inter (tr.ks.map (flatM h)) tr.es
      rw [e2, e4]
      conv => lhs; rw [hes, hkk, List.map_append]
      rw [inter_mid]
      rw [List.length_map, ← e2, ll, lkl]
    · rcases own_mem.1 h1 with h1 | ⟨v, hv, h1⟩
      · rw [e6] at h1; exact .inl (own_mem.2 (.inl h1))
      · exact .inl (own_mem.2 (.inr ⟨v, ml v hv, h1⟩))
    · rcases own_mem.1 h1 with h1 | ⟨v, hv, h1⟩
      · exact .inr (nwr q h1)
      · exact .inl (own_mem.2 (.inr ⟨v, mr v hv, h1⟩))
theorem zip_last {α : Type} : ∀ {K : List (List α)} {E : List α} {x : α}, K.length = E.length → E.getLast? = some x → ∃ Z, zipE K E = Z ++ [x]
  | [], [], x, _, h => by simp at h
  | [], _ :: _, _, h, _ => by simp at h
  | _ :: _, [], _, h, _ => by simp at h
  | k :: K, e :: E, x, hl, h => by
    cases E with
    | nil =>
      have : K = [] := List.eq_nil_of_length_eq_zero (by simpa using hl)
      subst this
      have : e = x := by simpa using h
      subst this
      exact ⟨k, rfl⟩
    | cons e' E =>
      obtain ⟨Z, hZ⟩ := zip_last (K := K) (E := e' :: E) (x := x) (by simpa using hl) (by simpa using h)
      exact ⟨k ++ e :: Z, by show k ++ e :: zipE K (e' :: E) = _; rw [hZ]; simp⟩
/-- Where an entry goes down: what is to the left is less, what is to the right is more. -/
theorem way_down {e : EnM} {K1 K2 : List MT} (hk : t.ks = K1 ++ u :: K2) {i : Nat} (hi : i = cntE t.es e) (hl : K1.length = i) (hl2 : t.ks.length = t.es.length + 1) (hs : SrtE (flatM (h + 1) t)) (hne : ∀ x ∈ flatM (h + 1) t, ordE x e ≠ 0) (hes : SrtE t.es) :
    (∀ x ∈ zipE (K1.map (flatM h)) (t.es.take i), ordE x e < 0) ∧ ∀ x ∈ restE (K2.map (flatM h)) (t.es.drop i), ordE e x < 0 := by
  have hle := cnt_le (l := t.es) (e := e)
  have hf := flat_split (h := h) hk (E1 := t.es.take i) (E2 := t.es.drop i) (List.take_append_drop _ _).symm (by rw [List.length_take]; omega)
  rw [hf] at hs hne
  unfold SrtE at hs
  rw [List.append_assoc, List.pairwise_append, List.pairwise_append] at hs
  obtain ⟨q1, ⟨q2, q3, q4⟩, q5⟩ := hs
  refine ⟨fun x hx => ?_, fun x hx => ?_⟩
  · cases hg : (t.es.take i).getLast? with
    | none =>
      have : t.es.take i = [] := List.getLast?_eq_none_iff.1 hg
      rw [this] at hx
      cases hK : K1.map (flatM h) <;> rw [hK] at hx <;> simp [zipE] at hx
    | some y =>
      obtain ⟨Z, hZ⟩ := zip_last (K := K1.map (flatM h)) (E := t.es.take i) (by rw [List.length_map, List.length_take]; omega) hg
      have hy : ordE y e < 0 := by
        have hmem : y ∈ t.es.take i := List.mem_of_getLast? hg
        obtain ⟨j, hj⟩ := List.mem_iff_getElem?.1 hmem
        have hlt := (List.getElem?_eq_some_iff.1 hj).1
        rw [List.length_take] at hlt
        rw [List.getElem?_take_of_lt (by omega)] at hj
        exact cnt_lt (by omega) hj
      rw [hZ] at q1 hx
      rw [List.pairwise_append] at q1
      rcases List.mem_append.1 hx with hx | hx
      · exact ordE_ok.lt_of (q1.2.2 x hx y (by simp)) (by omega)
      · rw [List.mem_singleton] at hx; rw [hx]; exact hy
  · cases hd : t.es.drop i with
    | nil =>
      rw [hd] at hx
      have hlen : t.es.length ≤ i := List.drop_eq_nil_iff.1 hd
      have hkl := hl2
      rw [hk, List.length_append, List.length_cons] at hkl
      have : K2 = [] := List.eq_nil_of_length_eq_zero (by omega)
      rw [this] at hx
      simp [restE, inter] at hx
    | cons y E =>
      have hyi : t.es[i]? = some y := by
        have := congrArg (fun l => l[0]?) hd
        simpa using this
      rw [hd] at hx q3 hne
      have hx : x ∈ y :: inter (K2.map (flatM h)) E := hx
      have q3 : (y :: inter (K2.map (flatM h)) E).Pairwise fun a b => ordE a b < 0 := q3
      have hy : ordE e y < 0 := ord_flip (cnt_ge hes (by omega) hyi) (hne y (List.mem_append_right _ (List.mem_cons_self ..)))
      rcases List.mem_cons.1 hx with rfl | hx
      · exact hy
      · rw [List.pairwise_cons] at q3
        exact ordE_ok.lt_of hy (by have := q3.1 x hx; omega)
end
end Go.Proofs.YtmelbipidffmpaaGreatDoor.Hw

/- Nodes: insert. -/
set_option linter.unusedVariables false
set_option linter.unusedSimpArgs false
set_option linter.unusedSectionVars false
set_option maxRecDepth 20000
namespace Go.Proofs.YtmelbipidffmpaaGreatDoor.Hw
open Go Go.Proofs
theorem inter_sub {α : Type} : ∀ {K : List (List α)} {E : List α}, K.length = E.length + 1 → E.Sublist (inter K E)
  | [], _, h => by simp at h
  | _ :: _, [], _ => List.nil_sublist _
  | k :: K, e :: E, h => by
    show (e :: E).Sublist (k ++ e :: inter K E)
    exact ((inter_sub (K := K) (E := E) (by simpa using h)).cons_cons e).trans (List.sublist_append_right _ _)
theorem es_sub {h lo hi : Nat} {t : MT} (F : FullM lo hi h t) : t.es.Sublist (flatM h t) := by
  cases h with
  | zero => exact List.Sublist.refl _
  | succ h => exact inter_sub (by rw [List.length_map]; exact F.1)
theorem pt_same {K1 K2 : List MT} {u u' : MT} (h : u'.g = u.g) : (K1 ++ u' :: K2).flatMap ptC = (K1 ++ u :: K2).flatMap ptC := by
  rw [List.flatMap_append, List.flatMap_append, List.flatMap_cons, List.flatMap_cons]
  unfold ptC
  rw [h]
section
variable {X : Hp}
theorem c53 : ∀ {h : Nat} {H : Hp} {t : MT} {e : EnM} {lo : Nat} {Q : Value → Hp → Prop}, MemM H h t → SepM h t → FullM lo 8 h t → Ext X H → (∀ x ∈ flatM h t, KeyAt X x) → KeyAt X e → (∀ q ∈ ownM h t, X q = none) → SrtE (flatM h t) → (∀ x ∈ flatM h t, ordE x e ≠ 0) →
    (∀ H' t', MemM H' h t' → SepM h t' → FullM lo 9 h t' → t'.g = t.g → Put (flatM h t) e (flatM h t') → FrM H H' (ownM h t) (ownM h t') → Q (.tuple #[]) H') →
    HCalls Tryz.prog 53 [.pointer (some ⟨t.g, 0, none⟩), enA e] H Q
  | 0, H, t, e, lo, Q, M, S, F, hX, hkey, hke, hid, hsrt, hne, hq => by
    refine f53.ok _ _ _ _ _ _ ?_
    unfold f53
    have N := M.1
    have hk0 := M.2
    have hle := cnt_le (l := t.es) (e := e)
    have h8 : t.es.length ≤ 8 := F.2.2
    refine c78 N (fun x hx => (hkey x hx).ext hX) (hke.ext hX) hsrt (by unfold big; omega) fun H2 x2 => ⟨_, _, rfl, _, _, _, (N.ext x2).cl1, cndT (by rw [hk0]; rfl) ⟨_, _, _, (N.ext x2).cl0, ?_⟩⟩
    refine insE (e := e) (N.ext x2) S hle (by omega) fun H12 A' c' N12 nd12 F12 => hq H12 _ ⟨N12, hk0⟩ nd12 ⟨hk0, ?_, ?_⟩ rfl (Put.here hsrt hne) ((FrM.ofExt x2).trans F12)
    · show lo ≤ (t.es.take _ ++ e :: t.es.drop _).length
      have := F.2.1
      simp; omega
    · show (t.es.take _ ++ e :: t.es.drop _).length ≤ 9
      simp; omega
  | h + 1, H, t, e, lo, Q, M, S, F, hX, hkey, hke, hid, hsrt, hne, hq => by
    refine f53.ok _ _ _ _ _ _ ?_
    unfold f53
    have N := M.1
    have hle := cnt_le (l := t.es) (e := e)
    obtain ⟨f1, f2, f3, f4⟩ := id F
    have hsub := es_sub F
    have hes : SrtE t.es := hsrt.sublist hsub
    refine c78 N (fun x hx => (hkey x (hsub.subset hx)).ext hX) (hke.ext hX) hes (by unfold big; omega) fun H2 x2 => ⟨_, _, rfl, _, _, _, (N.ext x2).cl1, cndF (by simp; intro e0; rw [e0] at f1; simp at f1) ⟨_, _, _, (N.ext x2).cl1, by omega, by omega, ?_⟩⟩
    obtain ⟨i, hi⟩ : ∃ i, i = cntE t.es e := ⟨_, rfl⟩
    rw [← hi] at hle ⊢
    obtain ⟨u, hu⟩ := get_of (l := t.ks) (i := i) (by omega)
    have hum := List.mem_of_getElem? hu
    have hk : t.ks = t.ks.take i ++ u :: t.ks.drop (i + 1) := kids_split hu
    obtain ⟨K1, hK1⟩ : ∃ K1, K1 = t.ks.take i := ⟨_, rfl⟩
    obtain ⟨K2, hK2⟩ : ∃ K2, K2 = t.ks.drop (i + 1) := ⟨_, rfl⟩
    rw [← hK1, ← hK2] at hk
    have hl1 : K1.length = i := by rw [hK1, List.length_take]; omega
    have hfl := flat_split (h := h) hk (E1 := t.es.take i) (E2 := t.es.drop i) (List.take_append_drop _ _).symm (by rw [List.length_take]; omega)
    obtain ⟨wz, wr⟩ := way_down hk hi hl1 f1 hsrt hne hes
    have hsu : SrtE (flatM h u) := by
      unfold SrtE at hsrt ⊢
      rw [hfl, List.append_assoc, List.pairwise_append, List.pairwise_append] at hsrt
      exact hsrt.2.1.1
    have inu : ∀ x ∈ flatM h u, x ∈ flatM (h + 1) t := fun x hx => by rw [hfl]; simp [hx]
    have ownu : ∀ q ∈ ownM h u, q ∈ ownM (h + 1) t := fun q hq => own_mem.2 (.inr ⟨u, hum, hq⟩)
    have N2 := N.ext x2
    have M2 : MemM H2 (h + 1) t := M.ext x2
    have lv2 := M2.live
    refine rd_pt (N2.ksAt (by unfold huge; omega)) hu fun q o _ kp => ⟨_, by simpa using kp, ?_⟩
    refine c53 (M2.2 u hum) (S.2.1 u hum).1 (f4 u hum) (hX.trans x2) (fun x hx => hkey x (inu x hx)) hke (fun q hq => hid q (ownu q hq)) hsu (fun x hx => hne x (inu x hx)) fun H17 u' M17 S17 F17 hg17 P17 Fr17 => ⟨rfl, ?_⟩
    have hu1 : ∀ q ∈ own1 t, q ∉ ownM h u := fun q hq h2 => (S.2.1 u hum).2 q h2 hq
    have N17 : NodeM H17 t := N2.keep fun q hq => Fr17.off (hu1 q hq) (N2.live q hq)
    have other : ∀ v, v ∈ K1 ∨ v ∈ K2 → v ∈ t.ks ∧ ∀ q ∈ ownM h v, q ∉ ownM h u := fun v hv => by
      obtain ⟨_, _, s3⟩ := S
      rw [hk, List.pairwise_append, List.pairwise_cons] at s3
      obtain ⟨p1, ⟨p4, p5⟩, p3⟩ := s3
      refine ⟨by rw [hk]; rcases hv with hv | hv <;> simp [hv], fun q hq h2 => ?_⟩
      rcases hv with hv | hv
      · exact p3 v hv u (List.mem_cons_self ..) q hq h2
      · exact p4 v hv q h2 hq
    have M17o : ∀ v, v ∈ K1 ∨ v ∈ K2 → MemM H17 h v := fun v hv => (M2.2 v (other v hv).1).keep fun q hq => Fr17.off ((other v hv).2 q hq) ((M2.2 v (other v hv).1).live q hq)
    have hPut : ∀ l', l' = zipE (K1.map (flatM h)) (t.es.take i) ++ flatM h u' ++ restE (K2.map (flatM h)) (t.es.drop i) → Put (flatM (h + 1) t) e l' := fun l' hl' => by
      rw [hfl, hl']; exact P17.wrap wz wr
    have hcu : cl H17 u.g (0 + 0) = some (.slice u'.eA u'.es.length u'.ec) := by rw [← hg17]; exact M17.node.cl0
    refine ⟨_, _, _, hcu, ?_⟩
    refine cndI (fun h9 => ?_) fun h9 => ?_
    · -- the kid is cut in two
      have h9 := of_decide_eq_true h9
      rw [← hg17]
      refine c54m M17 S17 F17 (by omega) fun H21 tl tr mid Ml Mr Sl Sr ap Fl Fr' hgl hflat nl nr F21 => ⟨_, _, _, _, _, rfl, ?_⟩
      have lv17 := M17.live
      have own17 : ∀ q ∈ ownM h u', q ∉ own1 t := fun q hq h1 => by
        rcases Fr17.nw q hq with h2 | h2
        · exact hu1 q h1 h2
        · exact N2.live q h1 h2
      have N21 : NodeM H21 t := N17.keep fun q hq => F21.off (fun h2 => own17 q h2 hq) (N17.live q hq)
      have M21o : ∀ v, v ∈ K1 ∨ v ∈ K2 → MemM H21 h v := fun v hv => (M17o v hv).keep fun q hq => F21.off (fun h2 => by
        rcases Fr17.nw q h2 with h3 | h3
        · exact (other v hv).2 q hq h3
        · exact (M2.2 v (other v hv).1).live q hq h3) ((M17o v hv).live q hq)
      refine ⟨_, _, _, N21.cl0, insE (e := mid) N21 S.1 (i := i) (by omega) (by omega) fun H31 A30 c30 N31 nd31 F31 => ?_⟩
      have ei : IntKind.i64.wrap ((i : Int) + 1) = ((i + 1 : Nat) : Int) := by rw [wrap_id (by omega) (by omega)]; omega
      rw [ei]
      have st := insK (v := tr) N31 nd31 (i := i + 1) (by show i + 1 ≤ t.ks.length; omega) (by show t.ks.length < 1000; omega) (K := fun H38 => Q (.tuple #[]) H38) fun H38 A37 c37 N38 nd38 F38 => ?_
      · exact ⟨_, _, _, N31.cl1, st⟩
      have hks' : t.ks.take (i + 1) ++ tr :: t.ks.drop (i + 1) = K1 ++ u :: tr :: K2 := by
        rw [take_snoc hu, hK1, hK2]; simp
      have hpt : (K1 ++ u :: tr :: K2).flatMap ptC = (K1 ++ tl :: tr :: K2).flatMap ptC := (pt_same (u := u) (u' := tl) (by rw [hgl, hg17])).symm
      -- the new tree
      obtain ⟨t', ht'⟩ : ∃ t' : MT, t' = .mk t.g A30 c30 (t.es.take i ++ mid :: t.es.drop i) A37 c37 (K1 ++ tl :: tr :: K2) := ⟨_, rfl⟩
      have Nt' : NodeM H38 t' := by
        obtain ⟨cc, er, kr⟩ := N38
        have kr : RowO H38 A37 (t.ks.take (i + 1) ++ tr :: t.ks.drop (i + 1)).length c37 1 ((t.ks.take (i + 1) ++ tr :: t.ks.drop (i + 1)).flatMap ptC) := kr
        have cc : ∃ ty, H38 t.g = some (.cells (nodeC A30 (t.es.take i ++ mid :: t.es.drop i).length c30 A37 (t.ks.take (i + 1) ++ tr :: t.ks.drop (i + 1)).length c37).toArray ty (0, 0)) := cc
        have hlen : (K1 ++ u :: tr :: K2).length = (K1 ++ tl :: tr :: K2).length := by simp
        rw [hks', hlen] at cc
        rw [hks', hpt, hlen] at kr
        rw [ht']
        exact ⟨cc, er, kr⟩
      have o31 : ∀ q ∈ own1 t', q ∈ own1 t ∨ H21 q = none := fun q hq => by
        have hq' : q ∈ own1 (.mk t.g A30 c30 (t.es.take i ++ mid :: t.es.drop i) A37 c37 (t.ks.take (i + 1) ++ tr :: t.ks.drop (i + 1))) := by rw [ht'] at hq; exact hq
        rcases F38.nw q hq' with h1 | h1
        · exact F31.nw q h1
        · by_cases e1 : H31 q = H21 q
          · exact .inr (by rw [← e1]; exact h1)
          · rcases F31.ch q e1 with h2 | h2
            · exact .inl h2
            · exact .inr h2
      have keep38 : ∀ q, q ∉ own1 t → H21 q ≠ none → H38 q = H21 q := fun q hq hn => by
        have e1 : H31 q = H21 q := F31.off hq hn
        rw [← e1]
        refine F38.off (fun h1 => ?_) (by rw [e1]; exact hn)
        rcases F31.nw q h1 with h2 | h2
        · exact hq h2
        · exact hn h2
      have ok_v : ∀ v, MemM H21 h v → (∀ q ∈ ownM h v, q ∉ own1 t) → MemM H38 h v := fun v Mv hv => Mv.keep fun q hq => keep38 q (hv q hq) (Mv.live q hq)
      have oll : ∀ q ∈ ownM h tl, q ∉ own1 t := fun q hq h1 => by
        rcases nl q hq with h2 | h2
        · exact own17 q h2 h1
        · exact N17.live q h1 h2
      have olr : ∀ q ∈ ownM h tr, q ∉ own1 t := fun q hq h1 => by
        rcases nr q hq with h2 | h2
        · exact own17 q h2 h1
        · exact N17.live q h1 h2
      have Mt' : MemM H38 (h + 1) t' := ⟨Nt', fun v hv => by
        rw [ht'] at hv
        have hv : v ∈ K1 ++ tl :: tr :: K2 := hv
        rcases List.mem_append.1 hv with hv | hv
        · exact ok_v v (M21o v (.inl hv)) (S.2.1 v (other v (.inl hv)).1).2
        · rcases List.mem_cons.1 hv with rfl | hv
          · exact ok_v _ Ml oll
          · rcases List.mem_cons.1 hv with rfl | hv
            · exact ok_v _ Mr olr
            · exact ok_v v (M21o v (.inr hv)) (S.2.1 v (other v (.inr hv)).1).2⟩
      have back : ∀ q, H17 q = none → q ∈ ownM h u ∨ H2 q = none := fun q hn => by
        by_cases e1 : H17 q = H2 q
        · exact .inr (by rw [← e1]; exact hn)
        · exact Fr17.ch q e1
      have hnew : ∀ v ∈ [tl, tr], ∀ q ∈ ownM h v, q ∈ ownM h u ∨ H2 q = none := fun v hv q hq => by
        have h1 : q ∈ ownM h u' ∨ H17 q = none := by
          rcases List.mem_cons.1 hv with rfl | hv
          · exact nl q hq
          · rw [List.mem_singleton] at hv; subst hv; exact nr q hq
        rcases h1 with h1 | h1
        · exact Fr17.nw q h1
        · exact back q h1
      have St' : SepM (h + 1) t' := by
        refine sep_replace (H := H2) (L := [tl, tr]) S hk lv2 (fun v hv => ?_) (by simp [ap]) hnew (by rw [ht']; simp [MT.ks]) (by rw [ht']; exact nd38) fun q hq => ?_
        · rcases List.mem_cons.1 hv with rfl | hv
          · exact Sl
          · rw [List.mem_singleton] at hv; subst hv; exact Sr
        · rcases o31 q hq with h1 | h1
          · exact .inl h1
          · have h17 : H17 q = none := by
              refine Classical.byContradiction fun hn => ?_
              exact F21.al q hn h1
            rcases back q h17 with h2 | h2
            · exact absurd h17 (by
                intro e0
                have := Fr17.al q ((M2.2 u hum).live q h2)
                exact this e0)
            · refine .inr ⟨h2, fun v hv hqv => ?_⟩
              have : H21 q ≠ none := by
                rcases List.mem_cons.1 hv with rfl | hv
                · exact Ml.live q hqv
                · rw [List.mem_singleton] at hv; subst hv; exact Mr.live q hqv
              exact this h1
      have Ft' : FullM lo 9 (h + 1) t' := by
        rw [ht']
        refine ⟨?_, ?_, ?_, fun v hv => ?_⟩
        · show (K1 ++ tl :: tr :: K2).length = (t.es.take i ++ mid :: t.es.drop i).length + 1
          rw [hK1, hK2]; simp; omega
        · show lo ≤ (t.es.take i ++ mid :: t.es.drop i).length
          simp; omega
        · show (t.es.take i ++ mid :: t.es.drop i).length ≤ 9
          simp; omega
        · have hv : v ∈ K1 ++ tl :: tr :: K2 := hv
          rcases List.mem_append.1 hv with hv | hv
          · exact f4 v (other v (.inl hv)).1
          · rcases List.mem_cons.1 hv with rfl | hv
            · exact Fl
            · rcases List.mem_cons.1 hv with rfl | hv
              · exact Fr'
              · exact f4 v (other v (.inr hv)).1
      refine hq H38 t' Mt' St' Ft' (by rw [ht']; rfl) (hPut _ ?_) ⟨fun q hq => ?_, fun q hq => ?_, fun q hq => ?_⟩
      · rw [ht', hflat]
        show inter ((K1 ++ tl :: tr :: K2).map (flatM h)) (t.es.take i ++ mid :: t.es.drop i) = _
        rw [List.map_append, inter_app (by rw [List.length_map, hl1, List.length_take]; omega)]
        show _ ++ (flatM h tl ++ mid :: inter ((tr :: K2).map (flatM h)) (t.es.drop i)) = _
        rw [List.map_cons, inter_head]
        simp
      · by_cases e1 : q ∈ own1 t
        · exact .inl (own_mem.2 (.inl e1))
        · by_cases e2 : H21 q = none
          · have h17 : H17 q = none := Classical.byContradiction fun hn => F21.al q hn e2
            rcases back q h17 with h2 | h2
            · exact .inl (ownu q h2)
            · exact .inr (x2.none h2)
          · rw [keep38 q e1 e2] at hq
            by_cases e3 : H21 q = H17 q
            · rw [e3] at hq
              by_cases e4 : H17 q = H2 q
              · rw [e4] at hq
                exact .inr (Classical.byContradiction fun hn => hq (ext_at x2 hn))
              · rcases Fr17.ch q e4 with h2 | h2
                · exact .inl (ownu q h2)
                · exact .inr (x2.none h2)
            · rcases F21.ch q e3 with h2 | h2
              · rcases Fr17.nw q h2 with h3 | h3
                · exact .inl (ownu q h3)
                · exact .inr (x2.none h3)
              · rcases back q h2 with h3 | h3
                · exact .inl (ownu q h3)
                · exact .inr (x2.none h3)
      · rcases own_mem.1 hq with h1 | ⟨v, hv, h1⟩
        · rcases o31 q h1 with h2 | h2
          · exact .inl (own_mem.2 (.inl h2))
          · have h17 : H17 q = none := Classical.byContradiction fun hn => F21.al q hn h2
            rcases back q h17 with h3 | h3
            · exact .inl (ownu q h3)
            · exact .inr (x2.none h3)
        · rw [ht'] at hv
          have hv : v ∈ K1 ++ tl :: tr :: K2 := hv
          have hv : v ∈ K1 ∨ v ∈ [tl, tr] ∨ v ∈ K2 := by simpa [or_assoc] using hv
          rcases hv with hv | hv | hv
          · exact .inl (own_mem.2 (.inr ⟨v, (other v (.inl hv)).1, h1⟩))
          · rcases hnew v hv q h1 with h2 | h2
            · exact .inl (ownu q h2)
            · exact .inr (x2.none h2)
          · exact .inl (own_mem.2 (.inr ⟨v, (other v (.inr hv)).1, h1⟩))
      · have h2 : H2 q ≠ none := by rw [ext_at x2 hq]; exact hq
        have h17 := Fr17.al q h2
        have h21 := F21.al q h17
        exact F38.al q (F31.al q h21)
    · -- the kid stays one
      have h9 := of_decide_eq_false h9
      obtain ⟨t', ht'⟩ : ∃ t' : MT, t' = .mk t.g t.eA t.ec t.es t.kA t.kc (K1 ++ u' :: K2) := ⟨_, rfl⟩
      have hpt : (K1 ++ u' :: K2).flatMap ptC = t.ks.flatMap ptC := by rw [hk]; exact pt_same hg17
      have hlen : (K1 ++ u' :: K2).length = t.ks.length := by rw [hk]; simp
      have Nt' : NodeM H17 t' := by
        obtain ⟨cc, er, kr⟩ := N17
        rw [← hlen] at cc kr
        rw [← hpt] at kr
        rw [ht']
        exact ⟨cc, er, kr⟩
      have ho1 : own1 t' = own1 t := by rw [ht']; rfl
      refine hq H17 t' ⟨Nt', fun v hv => ?_⟩ ?_ ?_ (by rw [ht']; rfl) (hPut _ ?_) ⟨fun q hq => ?_, fun q hq => ?_, fun q hq => ?_⟩
      · rw [ht'] at hv
        have hv : v ∈ K1 ++ u' :: K2 := hv
        rcases List.mem_append.1 hv with hv | hv
        · exact M17o v (.inl hv)
        · rcases List.mem_cons.1 hv with rfl | hv
          · exact M17
          · exact M17o v (.inr hv)
      · refine sep_replace (H := H2) (L := [u']) S hk lv2 (fun v hv => ?_) (by simp) (fun v hv q hq => ?_) (by rw [ht']; simp [MT.ks]) (by rw [ho1]; exact S.1) fun q hq => .inl (by rw [ho1] at hq; exact hq)
        · rw [List.mem_singleton] at hv; subst hv; exact S17
        · rw [List.mem_singleton] at hv; subst hv; exact Fr17.nw q hq
      · rw [ht']
        refine ⟨by show (K1 ++ u' :: K2).length = _; rw [hlen]; exact f1, f2, by show t.es.length ≤ 9; omega, fun v hv => ?_⟩
        have hv : v ∈ K1 ++ u' :: K2 := hv
        rcases List.mem_append.1 hv with hv | hv
        · exact f4 v (other v (.inl hv)).1
        · rcases List.mem_cons.1 hv with rfl | hv
          · cases h with
            | zero => exact ⟨F17.1, F17.2.1, by omega⟩
            | succ h => exact ⟨F17.1, F17.2.1, by omega, F17.2.2.2⟩
          · exact f4 v (other v (.inr hv)).1
      · rw [ht']
        show inter ((K1 ++ u' :: K2).map (flatM h)) t.es = _
        conv => lhs; rw [show t.es = t.es.take i ++ t.es.drop i from (List.take_append_drop _ _).symm]
        rw [List.map_append, List.map_cons, inter_app (by rw [List.length_map, hl1, List.length_take]; omega), inter_head, List.append_assoc]
      · by_cases e4 : H17 q = H2 q
        · rw [e4] at hq
          exact .inr (Classical.byContradiction fun hn => hq (ext_at x2 hn))
        · rcases Fr17.ch q e4 with h2 | h2
          · exact .inl (ownu q h2)
          · exact .inr (x2.none h2)
      · rcases own_mem.1 hq with h1 | ⟨v, hv, h1⟩
        · rw [ho1] at h1; exact .inl (own_mem.2 (.inl h1))
        · rw [ht'] at hv
          have hv : v ∈ K1 ++ u' :: K2 := hv
          rcases List.mem_append.1 hv with hv | hv
          · exact .inl (own_mem.2 (.inr ⟨v, (other v (.inl hv)).1, h1⟩))
          · rcases List.mem_cons.1 hv with rfl | hv
            · rcases Fr17.nw q h1 with h2 | h2
              · exact .inl (ownu q h2)
              · exact .inr (x2.none h2)
            · exact .inl (own_mem.2 (.inr ⟨v, (other v (.inr hv)).1, h1⟩))
      · exact Fr17.al q (by rw [ext_at x2 hq]; exact hq)
end
end Go.Proofs.YtmelbipidffmpaaGreatDoor.Hw

/- Nodes laid out as blocks: flat, tree. -/
set_option linter.unusedVariables false
set_option linter.unusedSimpArgs false
set_option linter.unusedSectionVars false
set_option maxRecDepth 20000
namespace Go.Proofs.YtmelbipidffmpaaGreatDoor.Hw
open Go Go.Proofs
/-- Where lists begin that stand one behind the other. -/
def starts : Nat → List (List NdM) → List Int
  | _, [] => []
  | s, l :: r => (s : Int) :: starts (s + l.length) r
def BlkOf : Nat → MT → Nat → List NdM → Prop
  | 0, t, _, l => ∃ b, l = [b] ∧ b.es = t.es ∧ b.ks = []
  | h + 1, t, s, l => ∃ b ls, l = b :: ls.flatten ∧ b.es = t.es ∧ b.ks = starts (s + 1) ls ∧ ls.length = t.ks.length ∧ ∀ (i : Nat) (u : MT) (l' : List NdM), t.ks[i]? = some u → ls[i]? = some l' → BlkOf h u (s + 1 + (ls.take i).flatten.length) l'
theorem ndC_len (b : NdM) : (ndC b).length = 2 := rfl
theorem ndC_one (x : NdM) : ∀ v ∈ ndC x, v.oneCell' = true := fun v hv => by
  unfold ndC at hv
  simp only [List.mem_cons, List.not_mem_nil, or_false] at hv
  rcases hv with rfl | rfl <;> rfl
theorem flat_set {α : Type} {f : α → List Value} {k : Nat} (hf : ∀ x, (f x).length = k) {l : List α} {p : Nat} {x : α} (hp : p < l.length) : setR (l.flatMap f) (p * k) (f x) = (l.set p x).flatMap f := by
  unfold setR
  rw [hf, show p * k + k = (p + 1) * k from (Nat.succ_mul _ _).symm, flat_take hf, flat_drop hf, List.set_eq_take_append_cons_drop, if_pos hp, List.flatMap_append, List.flatMap_cons, List.append_assoc]
theorem starts_snoc {l : List NdM} : ∀ {ls : List (List NdM)} {s : Nat}, starts s (ls ++ [l]) = starts s ls ++ [((s + ls.flatten.length : Nat) : Int)]
  | [], s => by simp [starts]
  | x :: r, s => by
    show (s : Int) :: starts (s + x.length) (r ++ [l]) = (s : Int) :: starts (s + x.length) r ++ [_]
    rw [starts_snoc]
    simp only [List.flatten_cons, List.length_append, List.cons_append, Nat.add_assoc]
theorem starts_len : ∀ {ls : List (List NdM)} {s : Nat}, (starts s ls).length = ls.length
  | [], s => rfl
  | x :: r, s => by show (starts _ r).length + 1 = _; rw [starts_len]; rfl
/-- Blocks under way. -/
structure FlAt (H : Hp) (g : Nat) (A : Option Addr) (c : Nat) (cols : Int) (bl : List NdM) : Prop where
  cell : ∃ ty, H g = some (.cells [.slice A bl.length c, .int .i64 0, .int .i64 cols].toArray ty (0, 0))
  row : RowO H A bl.length c 2 (bl.flatMap ndC)
  sep : ¬ rowB A g
  kid : ∀ b ∈ bl, SlAt inC H b.kA b.ks.length b.ks ∧ (b.ks ≠ [] → ∀ q, rowB b.kA q → q ≠ g ∧ ¬ rowB A q)
def flO (g : Nat) (A : Option Addr) : List Nat := g :: blkA A
theorem flO_mem {g q : Nat} {A : Option Addr} : q ∈ flO g A ↔ q = g ∨ rowB A q := by unfold flO; rw [List.mem_cons, blk_row]
theorem inC_keep {H H' : Hp} {b : NdM} (h : SlAt inC H b.kA b.ks.length b.ks) (hk : b.ks ≠ [] → ∀ q, rowB b.kA q → H q ≠ none → H' q = H q) : SlAt inC H' b.kA b.ks.length b.ks := by
  by_cases h0 : b.ks = []
  · exact ⟨rfl, .inl (by rw [h0]; rfl), by rw [h0]; simp [huge]⟩
  · exact h.stay (hk h0)
theorem inC_live {H : Hp} {b : NdM} (h : SlAt inC H b.kA b.ks.length b.ks) (h0 : b.ks ≠ []) {q : Nat} (hq : rowB b.kA q) : H q ≠ none := h.live (k := 1) (fun _ => rfl) (by omega) h0 hq
section
variable {H H' : Hp} {g : Nat} {A A' : Option Addr} {c c' : Nat} {cols : Int} {bl : List NdM} {Q : Value → Hp → Prop}
theorem FlAt.cl0 (F : FlAt H g A c cols bl) : cl H g (0 + 0) = some (.slice A bl.length c) := by
  obtain ⟨ty, hc⟩ := F.cell
  rw [cl_cells hc]; rfl
theorem FlAt.more (F : FlAt H g A c cols bl) (hx : Ext H H') : FlAt H' g A c cols bl := by
  obtain ⟨⟨ty, hc⟩, r, s, k⟩ := F
  exact ⟨⟨ty, hx _ _ hc⟩, r.ext hx, s, fun b hb => ⟨(k b hb).1.ext hx, (k b hb).2⟩⟩
/-- A block more: nothing in it as yet. -/
theorem FlAt.grow (F : FlAt H g A c cols bl) (hs : bl.length < 1000000) {K : Hp → Prop}
    (hk : ∀ H' A' c', FlAt H' g A' c' cols (bl ++ [⟨none, 0, [], none, 0, []⟩]) → FrM H H' (flO g A) (flO g A') → K H') :
    newF H 60 [.slice none 0 0, .slice none 0 0] fun g3 H4 => appendF H4 60 2 48 A bl.length c (some ⟨g3, 0, none⟩) 1 fun A5 n5 c5 H6 => storeF H6 g (0 + 0) [.slice A5 n5 c5] K := by
  intro g3 hg3
  have x4 : Ext H (upd g3 (.cells (ndC ⟨none, 0, [], none, 0, []⟩).toArray 60 (0, 0)) H) := Ext.new hg3
  have F4 := F.more x4
  refine F4.row.append (new := ndC ⟨none, 0, [], none, 0, []⟩) (cellsAt_one upd_at) rfl (ndC_one _) (by unfold big; omega) (by omega) fun A' c' H6 R6 Fr6 _ => ?_
  obtain ⟨ty, hc⟩ := F4.cell
  have gl : H g ≠ none := by obtain ⟨ty, hc⟩ := F.cell; rw [hc]; simp
  have off6 : ∀ q, ¬ rowB A q → (upd g3 (.cells (ndC ⟨none, 0, [], none, 0, []⟩).toArray 60 (0, 0)) H) q ≠ none → H6 q = (upd g3 (.cells (ndC ⟨none, 0, [], none, 0, []⟩).toArray 60 (0, 0)) H) q := fun q hq hn => Classical.byContradiction fun hne => by
    rcases Fr6.ch q hne with h | h
    · exact hq h
    · exact hn h
  have nA : ∀ q, rowB A' q → rowB A q ∨ H q = none := fun q hq => (Fr6.nw q hq).imp id fun h => x4.none h
  have hsep : ¬ rowB A' g := fun h => by
    rcases nA _ h with h | h
    · exact F.sep h
    · exact gl h
  have e1 : (bl ++ [(⟨none, 0, [], none, 0, []⟩ : NdM)]).flatMap ndC = bl.flatMap ndC ++ ndC ⟨none, 0, [], none, 0, []⟩ := by simp
  refine ⟨_, ty, (off6 g F.sep (by rw [hc]; simp)).trans hc, by simp, hk _ A' c' ⟨⟨ty, ?_⟩, ?_, hsep, fun b hb => ?_⟩ ⟨fun q hq => ?_, fun q hq => ?_, fun q hq => ?_⟩⟩
  · rw [upd_at, List.length_append]; rfl
  · rw [e1, List.length_append]
    exact R6.keep fun q hq _ => upd_off fun e => hsep (e ▸ hq)
  · rcases List.mem_append.1 hb with hb | hb
    · obtain ⟨k1, k2⟩ := F.kid b hb
      refine ⟨inC_keep k1 fun h0 q hq hn => ?_, fun h0 q hq => ⟨(k2 h0 q hq).1, fun h => ?_⟩⟩
      · obtain ⟨z1, z2⟩ := k2 h0 q hq
        rw [upd_off z1, off6 q z2 (by rw [ext_at x4 hn]; exact hn)]
        exact ext_at x4 hn
      · rcases nA q h with h | h
        · exact (k2 h0 q hq).2 h
        · exact inC_live k1 h0 hq h
    · rw [List.mem_singleton] at hb
      subst hb
      exact ⟨⟨rfl, .inl rfl, by simp [huge]⟩, fun h0 => absurd rfl h0⟩
  · rw [flO_mem]
    by_cases e : q = g
    · exact .inl (.inl e)
    · rw [upd_off e] at hq
      by_cases e2 : H6 q = (upd g3 (.cells (ndC ⟨none, 0, [], none, 0, []⟩).toArray 60 (0, 0)) H) q
      · rw [e2] at hq
        exact .inr (Classical.byContradiction fun hn => hq (ext_at x4 hn))
      · rcases Fr6.ch q e2 with h | h
        · exact .inl (.inr h)
        · exact .inr (x4.none h)
  · rw [flO_mem] at hq ⊢
    rcases hq with h | h
    · exact .inl (.inl h)
    · exact (nA q h).imp .inr id
  · by_cases e : q = g
    · subst e; rw [upd_at]; simp
    · rw [upd_off e]
      exact Fr6.al q fun e => hq ((ext_at x4 hq).symm.trans e)
/-- A block is filled. -/
theorem FlAt.fill (F : FlAt H g A c cols bl) {p : Nat} {b : NdM} {K : Hp → Prop} (hp : p < bl.length) (hb : SlAt inC H b.kA b.ks.length b.ks) (hs : b.ks ≠ [] → ∀ q, rowB b.kA q → q ≠ g ∧ ¬ rowB A q)
    (hk : ∀ H', FlAt H' g A c cols (bl.set p b) → FrM H H' (flO g A) (flO g A) → K H') : onPtr A fun b23 o23 => storeF H b23 (o23 + p * 2) (ndC b) K := by
  have hle := F.row.le
  refine F.row.store (p := p) (m := 1) (n' := bl.length) rfl (by omega) (by omega) (by omega) (by omega) fun H' R' Fr => hk H' ?_ ⟨fun q hq => ?_, fun q hq => .inl hq, Fr.al⟩
  · rw [flat_set ndC_len hp] at R'
    have off : ∀ q, ¬ rowB A q → H q ≠ none → H' q = H q := fun q hq hn => Classical.byContradiction fun hne => by
      rcases Fr.ch q hne with h | h
      · exact hq h
      · exact hn h
    obtain ⟨ty, hc⟩ := F.cell
    refine ⟨⟨ty, by rw [List.length_set]; exact (off g F.sep (by rw [hc]; simp)).trans hc⟩, by rw [List.length_set]; exact R', F.sep, fun b' hb' => ?_⟩
    have old : ∀ b' : NdM, SlAt inC H b'.kA b'.ks.length b'.ks → (b'.ks ≠ [] → ∀ q, rowB b'.kA q → q ≠ g ∧ ¬ rowB A q) → SlAt inC H' b'.kA b'.ks.length b'.ks ∧ (b'.ks ≠ [] → ∀ q, rowB b'.kA q → q ≠ g ∧ ¬ rowB A q) := fun b' k1 k2 =>
      ⟨inC_keep k1 fun h0 q hq hn => off q (k2 h0 q hq).2 hn, k2⟩
    rcases List.mem_or_eq_of_mem_set hb' with h | rfl
    · exact old b' (F.kid b' h).1 (F.kid b' h).2
    · exact old b' hb hs
  · rw [flO_mem]
    exact (Fr.ch q hq).imp .inr id
end
end Go.Proofs.YtmelbipidffmpaaGreatDoor.Hw

/- Nodes laid out as blocks: flat, tree, walked. -/
set_option linter.unusedVariables false
set_option linter.unusedSimpArgs false
set_option linter.unusedSectionVars false
set_option maxRecDepth 20000
namespace Go.Proofs.YtmelbipidffmpaaGreatDoor.Hw
open Go Go.Proofs
def sizeM : Nat → MT → Nat
  | 0, _ => 1
  | h + 1, t => 1 + (t.ks.map (sizeM h)).sum
theorem blk_len : ∀ {h : Nat} {t : MT} {s : Nat} {l : List NdM}, BlkOf h t s l → l.length = sizeM h t
  | 0, t, s, l, ⟨b, hl, _⟩ => by rw [hl]; rfl
  | h + 1, t, s, l, ⟨b, ls, hl, _, _, hn, hk⟩ => by
    rw [hl, List.length_cons, List.length_flatten]
    show _ = 1 + (t.ks.map (sizeM h)).sum
    have : ls.map List.length = t.ks.map (sizeM h) := by
      apply List.ext_getElem?
      intro i
      rw [List.getElem?_map, List.getElem?_map]
      by_cases hi : i < t.ks.length
      · obtain ⟨u, hu⟩ := get_of hi
        obtain ⟨l', hl'⟩ := get_of (l := ls) (i := i) (by omega)
        rw [hu, hl']
        exact congrArg some (blk_len (hk i u l' hu hl'))
      · rw [List.getElem?_eq_none (by omega), List.getElem?_eq_none (by omega)]; rfl
    rw [this]; omega
section
variable {H0 : Hp} {g : Nat} {cols : Int}
theorem FlAt.keep {H H' : Hp} {A : Option Addr} {c : Nat} {bl : List NdM} (F : FlAt H g A c cols bl) (hk : ∀ q, H q ≠ none → (q = g ∨ rowB A q ∨ ∃ b ∈ bl, b.ks ≠ [] ∧ rowB b.kA q) → H' q = H q) : FlAt H' g A c cols bl := by
  obtain ⟨⟨ty, hc⟩, r, s, k⟩ := F
  exact ⟨⟨ty, (hk g (by rw [hc]; simp) (.inl rfl)).trans hc⟩, r.keep fun q hq hn => hk q hn (.inr (.inl hq)), s, fun b hb => ⟨inC_keep (k b hb).1 fun h0 q hq hn => hk q hn (.inr (.inr ⟨b, hb, h0, hq⟩)), (k b hb).2⟩⟩
/-- What is known of a block that was laid out. -/
def EOk (H0 H : Hp) (F : List EnM) (b : NdM) : Prop := SlAt enC H0 b.eA b.es.length b.es ∧ b.es.length ≤ b.ec ∧ (∀ e ∈ b.es, e ∈ F) ∧ (b.ks ≠ [] → ∀ q, rowB b.kA q → H q = none) ∧ b.es.length ≤ 1000
theorem c82 : ∀ {h : Nat} {H : Hp} {t : MT} {A : Option Addr} {c : Nat} {bl : List NdM} {Q : Value → Hp → Prop}, MemM H0 h t → FullM 0 1000 h t → Ext H0 H → (∀ q ∈ flO g A, H0 q = none) → FlAt H g A c cols bl → bl.length + sizeM h t ≤ 900000 →
    (∀ H' A' c' l, FlAt H' g A' c' cols (bl ++ l) → BlkOf h t bl.length l → FrM H H' (flO g A) (flO g A') → (∀ b ∈ l, EOk H0 H (flatM h t) b) → Q (.int .i64 ((bl.length : Nat) : Int)) H') →
    HCalls Tryz.prog 82 [.pointer (some ⟨t.g, 0, none⟩), .pointer (some ⟨g, 0, none⟩)] H Q := by
  intro h
  induction h with
  | zero =>
    intro H t A c bl Q M Fu hX hid F hsz hq
    refine f82.ok _ _ _ _ ?_
    unfold f82
    have N := M.1
    have hk0 := M.2
    have hsz : bl.length + 1 ≤ 900000 := hsz
    refine ⟨_, _, _, F.cl0, _, _, _, F.cl0, F.grow (by omega) fun H7 A7 c7 F7 Fr7 => ?_⟩
    have x7 := Fr7.ext hX hid
    have N7 := N.ext x7
    refine ⟨_, _, _, N7.cl0, _, _, _, N7.cl1, ?_⟩
    refine loop_to 0 (fun i st H' => st = ((0, ()), (((t.eA, t.es.length, t.ec), ((none, 0, 0), ())), ())) ∧ H' = H7) ⟨rfl, rfl⟩ ?_
    rintro i st H11 next hi ⟨rfl, rfl⟩ hnext
    dsimp only
    refine cndF (by rw [hk0]; rfl) ⟨_, _, _, F7.cl0, by omega, by rw [List.length_append]; simp; omega, ?_⟩
    have hset : (bl ++ [(⟨none, 0, [], none, 0, []⟩ : NdM)]).set bl.length ⟨t.eA, t.ec, t.es, none, 0, []⟩ = bl ++ [⟨t.eA, t.ec, t.es, none, 0, []⟩] := by simp
    refine F7.fill (p := bl.length) (b := ⟨t.eA, t.ec, t.es, none, 0, []⟩) (by simp) ⟨rfl, .inl rfl, by simp [huge]⟩ (fun h0 => absurd rfl h0) fun H24 F24 Fr24 => hq H24 A7 c7 [⟨t.eA, t.ec, t.es, none, 0, []⟩] (by rw [hset] at F24; exact F24) ⟨_, rfl, rfl, rfl⟩ (Fr7.trans Fr24) fun b hb => ?_
    rw [List.mem_singleton] at hb
    subst hb
    have := Fu.2.2
    exact ⟨N.esAt (by unfold huge; omega), N.er.le, fun e he => he, fun h0 => absurd rfl h0, this⟩
  | succ h ih =>
    intro H t A c bl Q M Fu hX hid F hsz hq
    refine f82.ok _ _ _ _ ?_
    unfold f82
    have N := M.1
    obtain ⟨f1, f2, f3, f4⟩ := id Fu
    have hsz' : bl.length + (1 + (t.ks.map (sizeM h)).sum) ≤ 900000 := hsz
    refine ⟨_, _, _, F.cl0, _, _, _, F.cl0, F.grow (by omega) fun H7 A7 c7 F7 Fr7 => ?_⟩
    have x7 := Fr7.ext hX hid
    have hid7 := Fr7.hid hX hid
    have N7 := N.ext x7
    refine ⟨_, _, _, N7.cl0, _, _, _, N7.cl1, ?_⟩
    obtain ⟨ph, hph⟩ : ∃ ph : NdM, ph = ⟨none, 0, [], none, 0, []⟩ := ⟨_, rfl⟩
    rw [← hph] at F7
    have hin : ∀ u ∈ t.ks, ∀ e ∈ flatM h u, e ∈ flatM (h + 1) t := fun u hu e he => (inter_mem (by rw [List.length_map]; exact f1)).2 (.inr ⟨_, List.mem_map_of_mem hu, he⟩)
    refine loop_to t.ks.length (fun i st H' => ∃ A' c' ls KA KC, st = (((i : Int), ()), (((t.eA, t.es.length, t.ec), ((KA, i, KC), ())), ())) ∧ FlAt H' g A' c' cols (bl ++ ph :: List.flatten ls) ∧ ls.length = i ∧
        (∀ (j : Nat) (u : MT) (l' : List NdM), t.ks[j]? = some u → ls[j]? = some l' → BlkOf h u (bl.length + 1 + (ls.take j).flatten.length) l') ∧ RowO H' KA i KC 1 ((starts (bl.length + 1) ls).flatMap inC) ∧
        (∀ q, rowB KA q → H7 q = none ∧ q ≠ g ∧ ¬ rowB A' q) ∧ FrM H7 H' (flO g A7) (flO g A') ∧ (∀ b ∈ ls.flatten, EOk H0 H (flatM (h + 1) t) b) ∧ (∀ b ∈ bl ++ ph :: ls.flatten, b.ks ≠ [] → ∀ q, rowB b.kA q → ¬ rowB KA q))
      ⟨A7, c7, [], none, 0, rfl, F7, rfl, fun j u l' _ hl => by simp at hl, RowO.nil, fun q ⟨_, _, hh⟩ => (by cases hh), FrM.refl, fun b hb => by simp at hb, fun b hb h0 q _ ⟨_, _, hh⟩ => by cases hh⟩ ?_
    rintro i st H11 next hi ⟨A', c', ls, KA, KC, rfl, F11, hls, hblk, RK, hKA, G, hE, hsep⟩ hnext
    dsimp only
    have x11 : Ext H0 H11 := G.ext x7 hid7
    have hid11 := G.hid x7 hid7
    have hlen : ls.flatten.length = ((t.ks.take i).map (sizeM h)).sum := by
      rw [List.length_flatten]
      congr 1
      apply List.ext_getElem?
      intro j
      rw [List.getElem?_map, List.getElem?_map]
      by_cases hj : j < i
      · obtain ⟨u, hu⟩ := get_of (l := t.ks) (i := j) (by omega)
        obtain ⟨l', hl'⟩ := get_of (l := ls) (i := j) (by omega)
        rw [List.getElem?_take_of_lt hj, hu, hl']
        exact congrArg some (blk_len (hblk j u l' hu hl'))
      · rw [List.getElem?_eq_none (by omega), List.getElem?_eq_none (by rw [List.length_take]; omega)]; rfl
    refine cndI (fun hlt => ?_) fun hlt => ?_
    · have hlt := of_decide_eq_true hlt
      obtain ⟨u, hu⟩ := get_of (l := t.ks) (i := i) (by omega)
      have hum := List.mem_of_getElem? hu
      have hsum : (t.ks.map (sizeM h)).sum = ((t.ks.take i).map (sizeM h)).sum + (sizeM h u + ((t.ks.drop (i + 1)).map (sizeM h)).sum) := by
        conv => lhs; rw [kids_split hu]
        rw [List.map_append, List.sum_append, List.map_cons, List.sum_cons]
      have hbl : (bl ++ ph :: ls.flatten).length = bl.length + 1 + ls.flatten.length := by simp; omega
      refine ⟨by omega, by omega, rd_pt (N.ksAt (by unfold huge; omega) |>.ext x11) hu fun q o _ kp => ⟨_, by simpa using kp, ?_⟩⟩
      refine ih (M.2 u hum) (by
        have := f4 u hum
        cases h with
        | zero => exact ⟨this.1, by omega, by have := this.2.2; omega⟩
        | succ h => exact ⟨this.1, by omega, by have := this.2.2.1; omega, this.2.2.2⟩) x11 hid11 F11 (by omega) fun H16 A16 c16 l F16 hB Fr16 hE16 => ⟨_, rfl, fun g18 hg18 => ?_⟩
      have KA11 : ∀ q, rowB KA q → H11 q ≠ none := fun q hq => RK.live hq
      have RK16 : RowO H16 KA i KC 1 ((starts (bl.length + 1) ls).flatMap inC) := RK.keep fun q hq hn => Fr16.off (fun h1 => by
        rw [flO_mem] at h1
        rcases h1 with h1 | h1
        · exact (hKA q hq).2.1 h1
        · exact (hKA q hq).2.2 h1) hn
      have x19 : Ext H16 (upd g18 (.cells [Value.int .i64 (((bl ++ ph :: ls.flatten).length : Nat) : Int)].toArray 3 (0, 0)) H16) := Ext.new hg18
      have KA16 : ∀ q, rowB KA q → q ≠ g ∧ ¬ rowB A16 q := fun q hq => ⟨(hKA q hq).2.1, fun h1 => by
        rcases Fr16.nw q (flO_mem.2 (.inr h1)) with h2 | h2
        · rw [flO_mem] at h2
          rcases h2 with h2 | h2
          · exact (hKA q hq).2.1 h2
          · exact (hKA q hq).2.2 h2
        · exact KA11 q hq h2⟩
      have hsep16 : ∀ b ∈ (bl ++ ph :: ls.flatten) ++ l, b.ks ≠ [] → ∀ q, rowB b.kA q → ¬ rowB KA q := fun b hb h0 q hq hK => by
        rcases List.mem_append.1 hb with hb | hb
        · exact hsep b hb h0 q hq hK
        · exact KA11 q hK ((hE16 b hb).2.2.2.1 h0 q hq)
      refine (RK16.ext x19).append (new := inC (((bl ++ ph :: ls.flatten).length : Nat) : Int)) (cellsAt_one upd_at) rfl (fun v hv => by simp [inC] at hv; subst hv; rfl) (by unfold big; omega) (by omega) fun A20 c20 H21 R20 Fr21 _ => ⟨rfl, ?_⟩
      have off21 : ∀ q, H16 q ≠ none → ¬ rowB KA q → H21 q = H16 q := fun q hn hK => by
        have e1 := ext_at x19 hn
        by_cases e : H21 q = (upd g18 (.cells [Value.int .i64 (((bl ++ ph :: ls.flatten).length : Nat) : Int)].toArray 3 (0, 0)) H16) q
        · rw [e, e1]
        · rcases Fr21.ch q e with h1 | h1
          · exact absurd h1 hK
          · rw [e1] at h1; exact absurd h1 hn
      have F21 : FlAt H21 g A16 c16 cols ((bl ++ ph :: ls.flatten) ++ l) := F16.keep fun q hn hq => off21 q hn fun hK => by
        rcases hq with h1 | h1 | ⟨b, hb, h0, h1⟩
        · exact (KA16 q hK).1 h1
        · exact (KA16 q hK).2 h1
        · exact hsep16 b hb h0 q h1 hK
      have G16 := G.trans Fr16
      have nwK : ∀ q, rowB A20 q → rowB KA q ∨ H16 q = none := fun q hq => (Fr21.nw q hq).imp id fun h1 => x19.none h1
      have eqf : (bl ++ ph :: ls.flatten) ++ l = bl ++ ph :: (ls ++ [l]).flatten := by simp
      have e16 : ∀ q, H16 q = none → H7 q = none := fun q hn => Classical.byContradiction fun h7 => G16.al q h7 hn
      refine hnext _ _ (by omega) ⟨A16, c16, ls ++ [l], A20, c20, ?_, by rw [← eqf]; exact F21, by simp [hls], fun j v l' hv hl' => ?_, ?_, fun q hq => ?_, ⟨fun q hq => ?_, fun q hq => ?_, fun q hq => ?_⟩, fun b hb => ?_, fun b hb h0 q hq hK => ?_⟩
      · rw [wrap_id (by omega) (by omega)]; rfl
      · by_cases hj : j < ls.length
        · rw [List.getElem?_append_left hj] at hl'
          rw [List.take_append_of_le_length (by omega)]
          exact hblk j v l' hv hl'
        · have hj' : j = i := by
            have := (List.getElem?_eq_some_iff.1 hl').1
            simp at this; omega
          subst hj'
          rw [← hls, List.getElem?_append_right (Nat.le_refl _)] at hl'
          simp at hl'
          subst hl'
          rw [hu] at hv; cases hv
          rw [← hls, List.take_left']
          · rw [hbl] at hB; exact hB
          · rfl
      · rw [starts_snoc, List.flatMap_append]
        have e2 : ((bl ++ ph :: ls.flatten).length : Nat) = bl.length + 1 + ls.flatten.length := hbl
        rw [← e2]
        simpa using R20
      · rcases nwK q hq with h1 | h1
        · exact ⟨(hKA q h1).1, KA16 q h1⟩
        · refine ⟨e16 q h1, fun e => ?_, fun hA => ?_⟩
          · subst e
            obtain ⟨ty, hc⟩ := F16.cell
            rw [hc] at h1; cases h1
          · exact F16.row.live hA h1
      · by_cases hn : H16 q = none
        · exact .inr (e16 q hn)
        · by_cases hK : rowB KA q
          · exact .inr (hKA q hK).1
          · rw [off21 q hn hK] at hq
            exact G16.ch q hq
      · exact G16.nw q hq
      · have h16 := G16.al q hq
        exact Fr21.al q fun e => h16 ((ext_at x19 h16).symm.trans e)
      · have hb : b ∈ ls.flatten ∨ b ∈ l := by simpa using hb
        rcases hb with hb | hb
        · exact hE b hb
        · obtain ⟨z1, z2, z3, z4, z5⟩ := hE16 b hb
          refine ⟨z1, z2, fun e he => hin u hum e (z3 e he), fun h0 q hq => ?_, z5⟩
          have h11 := z4 h0 q hq
          have h7 : H7 q = none := Classical.byContradiction fun h7 => G.al q h7 h11
          exact Classical.byContradiction fun hn => Fr7.al q hn h7
      · rw [← eqf] at hb
        rcases nwK q hK with h1 | h1
        · exact hsep16 b hb h0 q hq h1
        · exact inC_live (F16.kid b hb).1 h0 hq h1
    · have hlt := of_decide_eq_false hlt
      have hin' : i = t.ks.length := by omega
      subst hin'
      have sl : (starts (bl.length + 1) ls).length = ls.length := starts_len
      refine ⟨_, _, _, F11.cl0, by omega, by rw [List.length_append]; simp; omega, ?_⟩
      have hset : (bl ++ ph :: ls.flatten).set bl.length ⟨t.eA, t.ec, t.es, KA, KC, starts (bl.length + 1) ls⟩ = bl ++ (⟨t.eA, t.ec, t.es, KA, KC, starts (bl.length + 1) ls⟩ :: ls.flatten) := by simp
      have hsl : SlAt inC H11 KA (starts (bl.length + 1) ls).length (starts (bl.length + 1) ls) := ⟨rfl, RK.cells, by rw [sl, hls]; unfold huge; omega⟩
      have fl := F11.fill (p := bl.length) (b := ⟨t.eA, t.ec, t.es, KA, KC, starts (bl.length + 1) ls⟩) (K := fun H24 => Q (.int .i64 ((bl.length : Nat) : Int)) H24) (by simp) hsl (fun _ q hq => (hKA q hq).2) fun H24 F24 Fr24 => hq H24 A' c' _ (by rw [hset] at F24; exact F24) ⟨_, ls, rfl, rfl, rfl, hls, hblk⟩ ((Fr7.trans G).trans Fr24) fun b hb => ?_
      · have : ndC ⟨t.eA, t.ec, t.es, KA, KC, starts (bl.length + 1) ls⟩ = [.slice t.eA t.es.length t.ec, .slice KA t.ks.length KC] := by
          unfold ndC
          simp only [sl, hls]
        rw [this] at fl
        exact fl
      · rcases List.mem_cons.1 hb with rfl | hb
        · exact ⟨N.esAt (by unfold huge; omega), N.er.le, fun e he => (es_sub Fu).subset he, fun _ q hq => Classical.byContradiction fun hn => Fr7.al q hn (hKA q hq).1, f3⟩
        · exact hE b hb
end
end Go.Proofs.YtmelbipidffmpaaGreatDoor.Hw

/- Blocks that were laid out are a good tree; plain. -/
set_option linter.unusedVariables false
set_option linter.unusedSimpArgs false
set_option linter.unusedSectionVars false
set_option maxRecDepth 20000
namespace Go.Proofs.YtmelbipidffmpaaGreatDoor.Hw
open Go Go.Proofs
theorem good_of {cols : Int} {l : List EnM} (h1 : ∀ e ∈ l, entB cols e = true) (h2 : SrtE l) : goodE cols l = true := by
  unfold goodE
  rw [List.all_eq_true]
  intro i hi
  have hi := List.mem_range.1 hi
  obtain ⟨e, he⟩ := get_of hi
  unfold okAt
  rw [he]
  simp only [Bool.and_eq_true]
  refine ⟨h1 e (List.mem_of_getElem? he), ?_⟩
  by_cases h0 : i = 0
  · rw [if_pos h0]
  · rw [if_neg h0]
    obtain ⟨p, hp⟩ := get_of (l := l) (i := i - 1) (by omega)
    rw [hp]
    obtain ⟨a1, a2⟩ := List.getElem?_eq_some_iff.1 hp
    obtain ⟨a3, a4⟩ := List.getElem?_eq_some_iff.1 he
    have := List.pairwise_iff_getElem.1 h2 (i - 1) i a1 a3 (by omega)
    rw [a2, a4] at this
    exact decide_eq_true this
theorem good_srt {cols : Int} {l : List EnM} (h : goodE cols l = true) : SrtE l := by
  unfold SrtE
  rw [List.pairwise_iff_getElem]
  intro i j hi hj hij
  exact good_lt h hij (List.getElem?_eq_getElem hi) (List.getElem?_eq_getElem hj)
section
variable {bl : List NdM} {root : Int}
/-- What a visit leaves that goes through some blocks. -/
structure Gone (S T : Sv) (s n : Nat) (lf : Int) (F : List EnM) : Prop where
  out : T.out = S.out ++ F
  leaf : T.leaf = lf
  len : T.seen.length = S.seen.length
  seen : ∀ j, T.seen[j]? = if s ≤ j ∧ j < s + n then some true else S.seen[j]?
theorem kids_blk {h m : Nat} {d : Int} (hv : ∀ {u : MT} {s : Nat} {l : List NdM} {S : Sv}, BlkOf h u s l → (∀ j, j < l.length → bl[s + j]? = l[j]?) → FullM 3 8 h u → S.seen.length = bl.length → (∀ j, s ≤ j → j < s + l.length → S.seen[j]? = some false) → (S.leaf = 0 ∨ S.leaf = d + 1 + h) → ∃ T, visit bl root m S (s : Int) (d + 1) = some T ∧ Gone S T s l.length (d + 1 + h) (flatM h u)) :
    ∀ {ls : List (List NdM)} {us : List MT} {es : List EnM} {s : Nat} {S : Sv}, ls.length = us.length → us.length = es.length + 1 → (∀ (i : Nat) (u : MT) (l' : List NdM), us[i]? = some u → ls[i]? = some l' → BlkOf h u (s + (ls.take i).flatten.length) l') → (∀ j, j < ls.flatten.length → bl[s + j]? = ls.flatten[j]?) → (∀ u ∈ us, FullM 3 8 h u) →
      S.seen.length = bl.length → (∀ j, s ≤ j → j < s + ls.flatten.length → S.seen[j]? = some false) → (S.leaf = 0 ∨ S.leaf = d + 1 + h) →
      ∃ T, kidsV (fun S k => visit bl root m S k (d + 1)) (starts s ls) es S = some T ∧ Gone S T s ls.flatten.length (d + 1 + h) (inter (us.map (flatM h)) es)
  | [], us, es, s, S, h1, h2, _, _, _, _, _, _ => by simp at h1; omega
  | l :: ls, [], es, s, S, h1, h2, _, _, _, _, _, _ => by simp at h1
  | l :: ls, u :: us, es, s, S, h1, h2, hb, hbl, hF, hlen, hseen, hleaf => by
    have hb0 : BlkOf h u s l := by have := hb 0 u l rfl rfl; simpa using this
    have hfl : (l :: ls).flatten.length = l.length + ls.flatten.length := by simp
    obtain ⟨U, hU, g1, g2, g3, g4⟩ := hv (S := S) hb0 (fun j hj => by
      have := hbl j (by omega)
      rw [this, List.flatten_cons, List.getElem?_append_left hj]) (hF u (List.mem_cons_self ..)) hlen (fun j h3 h4 => hseen j h3 (by omega)) hleaf
    cases es with
    | nil =>
      have hus : us = [] := List.eq_nil_of_length_eq_zero (by simpa using h2)
      subst hus
      have hls : ls = [] := List.eq_nil_of_length_eq_zero (by simpa using h1)
      subst hls
      refine ⟨U, ?_, ?_⟩
      · show kidsV _ [(s : Int)] [] S = some U
        unfold kidsV
        rw [hU]; rfl
      · simp only [List.flatten_cons, List.flatten_nil, List.append_nil, List.map_cons, List.map_nil]
        exact ⟨by rw [g1]; simp [inter], g2, g3, g4⟩
    | cons e es =>
      obtain ⟨T, hT, k1, k2, k3, k4⟩ := kids_blk hv (ls := ls) (us := us) (es := es) (s := s + l.length) (S := ⟨U.seen, U.leaf, U.out ++ [e]⟩) (by simpa using h1) (by simpa using h2)
        (fun i u' l' hu' hl' => by
          have := hb (i + 1) u' l' (by simpa using hu') (by simpa using hl')
          simp only [List.take_succ_cons, List.flatten_cons, List.length_append] at this
          rw [← Nat.add_assoc] at this; exact this)
        (fun j hj => by
          have := hbl (l.length + j) (by omega)
          rw [← Nat.add_assoc] at this
          rw [this, List.flatten_cons, List.getElem?_append_right (by omega)]
          congr 1; omega)
        (fun v hv' => hF v (List.mem_cons_of_mem _ hv')) (g3.trans hlen) (fun j h3 h4 => by
          show U.seen[j]? = _
          rw [g4, if_neg (by omega)]
          exact hseen j (by omega) (by omega)) (.inr g2)
      refine ⟨T, ?_, ?_⟩
      · show kidsV _ ((s : Int) :: starts (s + l.length) ls) (e :: es) S = some T
        unfold kidsV
        rw [hU]; exact hT
      · refine ⟨?_, k2, k3.trans g3, fun j => ?_⟩
        · rw [k1]
          show U.out ++ [e] ++ _ = S.out ++ (flatM h u ++ e :: inter (us.map (flatM h)) es)
          rw [g1]; simp
        · rw [k4, hfl]
          show (if _ then _ else U.seen[j]?) = _
          rw [g4]
          by_cases c1 : s + l.length ≤ j ∧ j < s + l.length + ls.flatten.length
          · rw [if_pos c1, if_pos (by omega)]
          · rw [if_neg c1]
            by_cases c2 : s ≤ j ∧ j < s + l.length
            · rw [if_pos c2, if_pos (by omega)]
            · rw [if_neg c2, if_neg (by omega)]
theorem visit_blk : ∀ {h m : Nat} {t : MT} {s lo : Nat} {l : List NdM} {S : Sv} {d : Int}, BlkOf h t s l → (∀ j, j < l.length → bl[s + j]? = l[j]?) → FullM lo 8 h t → ((s : Int) = root ∨ 3 ≤ lo) → (h = 0 ∨ 1 ≤ lo) → h < m → S.seen.length = bl.length → (∀ j, s ≤ j → j < s + l.length → S.seen[j]? = some false) → (S.leaf = 0 ∨ S.leaf = d + h) →
    ∃ T, visit bl root m S (s : Int) d = some T ∧ Gone S T s l.length (d + h) (flatM h t)
  | 0, m + 1, t, s, lo, l, S, d, ⟨b, hl, he, hk⟩, hbl, F, hroot, _, hm, hlen, hseen, hleaf => by
    subst hl
    have hb : bl[((s : Nat) : Int).toNat]? = some b := by have := hbl 0 (by simp); simpa using this
    have hs : S.seen[((s : Nat) : Int).toNat]? = some false := hseen s (Nat.le_refl _) (by simp)
    obtain ⟨f1, f2, f3⟩ := F
    have hok : leafOk b (s : Int) root S.leaf d = true := by
      unfold leafOk
      rw [he]
      simp only [Bool.and_eq_true, Bool.or_eq_true, decide_eq_true_eq, beq_iff_eq]
      refine ⟨f3, ?_, ?_⟩
      · rcases hroot with h | h
        · exact .inl h
        · exact .inr (by omega)
      · simpa using hleaf
    refine ⟨_, by rw [visit_hit (by omega) hb hs, if_pos (by rw [hk]; rfl), if_pos hok], ⟨by rw [he]; rfl, by simp, by simp, fun j => ?_⟩⟩
    rw [List.getElem?_set, Int.toNat_natCast]
    have hsl := (List.getElem?_eq_some_iff.1 hs).1
    rw [Int.toNat_natCast] at hsl
    by_cases e : s = j
    · subst e; rw [if_pos rfl, if_pos hsl, if_pos (by simp)]
    · rw [if_neg e, if_neg (by simp; omega)]
  | h + 1, m + 1, t, s, lo, l, S, d, ⟨b, ls, hl, he, hk, hn, hkid⟩, hbl, F, hroot, h1, hm, hlen, hseen, hleaf => by
    subst hl
    obtain ⟨f1, f2, f3, f4⟩ := F
    have hb : bl[((s : Nat) : Int).toNat]? = some b := by have := hbl 0 (by simp); simpa using this
    have hs : S.seen[((s : Nat) : Int).toNat]? = some false := hseen s (Nat.le_refl _) (by simp)
    have hsl := (List.getElem?_eq_some_iff.1 hs).1
    rw [Int.toNat_natCast] at hsl
    have hkl : b.ks.length = b.es.length + 1 := by rw [hk, starts_len, hn, f1, he]
    have hok : nodeOk b (s : Int) root = true := by
      unfold nodeOk
      rw [he]
      simp only [Bool.and_eq_true, Bool.or_eq_true, decide_eq_true_eq, beq_iff_eq]
      refine ⟨f3, ?_, by omega, by rw [hkl, he]⟩
      rcases hroot with h | h
      · exact .inl h
      · exact .inr (by omega)
    obtain ⟨T, hT, k1, k2, k3, k4⟩ := kids_blk (bl := bl) (root := root) (h := h) (m := m) (d := d) (fun {u s' l' S'} q1 q2 q3 q4 q5 q6 => visit_blk q1 q2 q3 (.inr (Nat.le_refl _)) (.inr (by omega)) (by omega) q4 q5 q6) (ls := ls) (us := t.ks) (es := b.es) (s := s + 1) (S := ⟨S.seen.set s true, S.leaf, S.out⟩) hn (by rw [he]; exact f1) hkid
      (fun j hj => by
        have := hbl (j + 1) (by simp only [List.length_cons]; omega)
        rw [show s + 1 + j = s + (j + 1) by omega, this]; rfl) f4 (by simpa using hlen) (fun j h3 h4 => by
        show (S.seen.set s true)[j]? = _
        rw [List.getElem?_set, if_neg (by omega)]
        exact hseen j (by omega) (by simp only [List.length_cons]; omega)) (by
        show S.leaf = 0 ∨ S.leaf = _
        rcases hleaf with e | e
        · exact .inl e
        · exact .inr (by rw [e]; omega))
    refine ⟨T, ?_, ⟨?_, by rw [k2]; omega, k3.trans (by simp), fun j => ?_⟩⟩
    · rw [visit_hit (by omega) hb hs, if_neg (by omega), if_pos hok, Int.toNat_natCast, hk]
      exact hT
    · rw [k1, he]; rfl
    · rw [k4]
      show (if _ then _ else (S.seen.set s true)[j]?) = _
      rw [List.getElem?_set]
      simp only [List.length_cons]
      by_cases c1 : s + 1 ≤ j ∧ j < s + 1 + ls.flatten.length
      · rw [if_pos c1, if_pos (by omega)]
      · rw [if_neg c1]
        by_cases e : s = j
        · subst e; rw [if_pos rfl, if_pos hsl, if_pos (by omega)]
        · rw [if_neg e, if_neg (by omega)]
/-- The blocks of a good tree of nodes are a good tree. -/
theorem tree_blk {h : Nat} {t : MT} {lo : Nat} {cols : Int} (hB : BlkOf h t 0 bl) (F : FullM lo 8 h t) (h1 : h = 0 ∨ 1 ≤ lo) (hc : 1 ≤ cols ∧ cols ≤ 20) (hn : sizeM h t ≤ 2000) (hh : h < sizeM h t + 1) (hs : SrtE (flatM h t)) (he : ∀ e ∈ flatM h t, entB cols e = true) :
    ∃ S, treeV bl 0 cols = some S ∧ S.out = flatM h t ∧ S.leaf = 1 + h := by
  have hl := blk_len hB
  have hpos : 1 ≤ sizeM h t := by cases h <;> simp [sizeM]
  obtain ⟨T, hT, k1, k2, k3, k4⟩ := visit_blk (bl := bl) (root := 0) (m := bl.length + 1) (S := start bl.length) (d := 1) hB (fun j _ => by rw [Nat.zero_add]) F (.inl rfl) h1 (by omega) (by simp [start]) (fun j _ hj => by
    show (List.replicate bl.length false)[j]? = _
    rw [List.getElem?_replicate, if_pos (by omega)]) (.inl rfl)
  have hsh : Shape bl.length cols := ⟨hc.1, hc.2, by omega, by omega⟩
  have hall : T.seen.all id = true := by
    rw [List.all_eq_true]
    intro x hx
    obtain ⟨j, hj⟩ := List.mem_iff_getElem?.1 hx
    have hjl := (List.getElem?_eq_some_iff.1 hj).1
    rw [k4, if_pos ⟨by omega, by
      have : T.seen.length = bl.length := by rw [k3]; simp [start]
      omega⟩] at hj
    cases hj; rfl
  have ho : T.out = flatM h t := by rw [k1]; simp [start]
  refine ⟨T, ?_, ho, by rw [k2]⟩
  unfold treeV
  rw [if_pos hsh]
  have hT : visit bl 0 (bl.length + 1) (start bl.length) 0 1 = some T := hT
  rw [hT]
  simp only [hall, Bool.true_and, ho, good_of he hs, if_true]
end
theorem len_inter {α : Type} : ∀ {K : List (List α)} {E : List α}, K.length = E.length + 1 → (inter K E).length = (K.map List.length).sum + E.length
  | [], _, h => by simp at h
  | k :: K, [], h => by
    have : K = [] := List.eq_nil_of_length_eq_zero (by simpa using h)
    subst this
    simp [inter]
  | k :: K, e :: E, h => by
    show (k ++ e :: inter K E).length = _
    rw [List.length_append, List.length_cons, len_inter (K := K) (E := E) (by simpa using h)]
    simp; omega
/-- So many blocks need so many entries. -/
theorem size_le : ∀ {h lo : Nat} {t : MT}, FullM lo 1000 h t → lo + 3 * sizeM h t ≤ (flatM h t).length + 3
  | 0, lo, t, F => by
    show lo + 3 * 1 ≤ t.es.length + 3
    have := F.2.1
    omega
  | h + 1, lo, t, ⟨f1, f2, f3, f4⟩ => by
    have hl : (flatM (h + 1) t).length = ((t.ks.map (flatM h)).map List.length).sum + t.es.length := len_inter (by rw [List.length_map]; exact f1)
    rw [hl]
    show lo + 3 * (1 + (t.ks.map (sizeM h)).sum) ≤ _
    have key : ∀ l : List MT, (∀ u ∈ l, FullM 3 8 h u) → 3 * (l.map (sizeM h)).sum ≤ ((l.map (flatM h)).map List.length).sum := by
      intro l
      induction l with
      | nil => intro _; simp
      | cons u l ih =>
        intro hF
        have h1 := hF u (List.mem_cons_self ..)
        have h2 : FullM 3 1000 h u := by
          cases h with
          | zero => exact ⟨h1.1, h1.2.1, by have := h1.2.2; omega⟩
          | succ h => exact ⟨h1.1, h1.2.1, by have := h1.2.2.1; omega, h1.2.2.2⟩
        have h3 := size_le h2
        have h4 := ih fun v hv => hF v (List.mem_cons_of_mem _ hv)
        simp only [List.map_cons, List.sum_cons]
        omega
    have := key t.ks f4
    omega
/-- A tree is not deeper than it has blocks. -/
theorem deep_lt : ∀ {h lo hi : Nat} {t : MT}, FullM lo hi h t → h < sizeM h t
  | 0, _, _, t, _ => by simp [sizeM]
  | h + 1, lo, hi, t, ⟨f1, f2, f3, f4⟩ => by
    cases hk : t.ks with
    | nil => rw [hk] at f1; simp at f1
    | cons u l =>
      have := deep_lt (f4 u (by rw [hk]; exact List.mem_cons_self ..))
      show h + 1 < 1 + (t.ks.map (sizeM h)).sum
      rw [hk]
      simp only [List.map_cons, List.sum_cons]
      omega
end Go.Proofs.YtmelbipidffmpaaGreatDoor.Hw

/- Nodes laid out: tree; New. -/
set_option linter.unusedVariables false
set_option linter.unusedSimpArgs false
set_option linter.unusedSectionVars false
set_option maxRecDepth 20000
namespace Go.Proofs.YtmelbipidffmpaaGreatDoor.Hw
open Go Go.Proofs
theorem FullM.widen {lo hi hi' h : Nat} {t : MT} (F : FullM lo hi h t) (hh : hi ≤ hi') : FullM lo hi' h t := by
  cases h with
  | zero => exact ⟨F.1, F.2.1, by have := F.2.2; omega⟩
  | succ h => exact ⟨F.1, F.2.1, by have := F.2.2.1; omega, F.2.2.2⟩
theorem FullM.lower {lo lo' hi h : Nat} {t : MT} (F : FullM lo hi h t) (hh : lo' ≤ lo) : FullM lo' hi h t := by
  cases h with
  | zero => exact ⟨F.1, by have := F.2.1; omega, F.2.2⟩
  | succ h => exact ⟨F.1, by have := F.2.1; omega, F.2.2.1, F.2.2.2⟩
section
variable {H : Hp} {h lo : Nat} {t : MT} {cols : Int} {Q : Value → Hp → Prop}
/-- A tree that came out: its blocks, and what they say. -/
structure OutT (H : Hp) (A : Option Addr) (bl : List NdM) (cols : Int) (l : List EnM) (dep : Int) : Prop where
  tr : TrAt H A bl.length bl
  few : Fewish bl
  val : ∃ S, treeV bl 0 cols = some S ∧ S.out = l ∧ S.leaf = dep
theorem c55 (M : MemM H h t) (F : FullM lo 8 h t) (h1 : h = 0 ∨ 1 ≤ lo) (hc : 1 ≤ cols ∧ cols ≤ 20) (hn : sizeM h t ≤ 2000) (hs : SrtE (flatM h t)) (he : ∀ e ∈ flatM h t, entB cols e = true) (hkey : ∀ e ∈ flatM h t, KeyAt H e)
    (hq : ∀ H' A c bl, Ext H H' → OutT H' A bl cols (flatM h t) (1 + h) → Q (.agg #[.slice A bl.length c, .int .i64 0, .int .i64 cols]) H') :
    HCalls Tryz.prog 55 [.pointer (some ⟨t.g, 0, none⟩), .int .i64 cols] H Q := by
  refine f55.ok _ _ _ ?_
  unfold f55
  intro g1 hg1
  refine ⟨_, 24, upd_at, by simp, ?_⟩
  have x3 : Ext H (upd g1 (.cells [.slice none 0 0, .int .i64 0, .int .i64 cols].toArray 24 (0, 0)) (upd g1 (.cells [.slice none 0 0, .int .i64 0, .int .i64 0].toArray 24 (0, 0)) H)) := ((Ext.new hg1).upd hg1)
  have e3 : setR [.slice none 0 0, .int .i64 0, .int .i64 0] 0 [.slice none 0 0, .int .i64 0, .int .i64 cols] = [.slice none 0 0, .int .i64 0, .int .i64 cols] := rfl
  rw [e3]
  have F3 : FlAt (upd g1 (.cells [.slice none 0 0, .int .i64 0, .int .i64 cols].toArray 24 (0, 0)) (upd g1 (.cells [.slice none 0 0, .int .i64 0, .int .i64 0].toArray 24 (0, 0)) H)) g1 none 0 cols [] := ⟨⟨24, upd_at⟩, RowO.nil, fun ⟨_, _, hh⟩ => (by cases hh), fun b hb => by cases hb⟩
  have hid : ∀ q ∈ flO g1 none, H q = none := fun q hq => by
    rw [flO_mem] at hq
    rcases hq with rfl | ⟨_, _, hh⟩
    · exact hg1
    · cases hh
  refine c82 M ((F.lower (Nat.zero_le _)).widen (by omega)) x3 hid F3 (by simp; omega) fun H5 A' c' l F5 hB Fr hE => ⟨_, rfl, ?_⟩
  rw [List.nil_append] at F5
  obtain ⟨ty, hc5⟩ := F5.cell
  have x5 : Ext H H5 := Fr.ext x3 hid
  have k : ∀ i, cl H5 g1 i = [Value.slice A' l.length c', .int .i64 0, .int .i64 cols][i]? := fun i => cl_cells hc5 i
  refine ⟨_, _, _, k 0, _, k 1, _, k 2, hq H5 A' c' l x5 ⟨⟨⟨rfl, F5.row.cells, ?_⟩, fun b hb => ?_⟩, fun b hb => ?_, ?_⟩⟩
  · have := blk_len hB
    unfold huge; omega
  · obtain ⟨z1, z2, z3, z4, z5⟩ := hE b hb
    exact ⟨z1.ext x5, z2, (F5.kid b hb).1, fun e he => (hkey e (z3 e he)).ext x5⟩
  · obtain ⟨z1, z2, z3, z4, z5⟩ := hE b hb
    omega
  · exact tree_blk hB F h1 hc hn (by have := deep_lt F; omega) hs he
theorem c33 (hq0 : ¬ (1 ≤ cols ∧ cols ≤ 20) → Q (.tuple #[.agg #[.slice none 0 0, .int .i64 0, .int .i64 0], .int .i64 2]) H)
    (hq : (1 ≤ cols ∧ cols ≤ 20) → ∀ H' A c bl, Ext H H' → OutT H' A bl cols [] 1 → Q (.tuple #[.agg #[.slice A bl.length c, .int .i64 0, .int .i64 cols], .int .i64 0]) H') : HCalls Tryz.prog 33 [.int .i64 cols] H Q := by
  refine f33.ok _ ?_
  unfold f33
  refine jn_intro (fun J => (¬ (1 ≤ cols ∧ cols ≤ 20) → J true) ∧ ((1 ≤ cols ∧ cols ≤ 20) → J false)) ⟨fun hn => cndT rfl (hq0 hn), fun hy => cndF rfl ⟨rfl, by omega, by omega, fun g3 hg3 => ?_⟩⟩ fun J hJ => cndI (fun h1 => hJ.1 ?_) fun h1 => ?_
  · have x4 : Ext H (upd g3 (.cells [Value.slice none 0 0, .slice none 0 0].toArray 60 (0, 0)) H) := Ext.new hg3
    refine hq hy _ (some ⟨g3, 0, none⟩) 1 [⟨none, 0, [], none, 0, []⟩] x4 ⟨⟨fresh_sl (l := [⟨none, 0, [], none, 0, []⟩]) (f := ndC) rfl (by simp [huge]), fun b hb => ?_⟩, fun b hb => ?_, ?_⟩
    · rw [List.mem_singleton] at hb
      subst hb
      exact ⟨⟨rfl, .inl rfl, by simp [huge]⟩, Nat.le_refl _, ⟨rfl, .inl rfl, by simp [huge]⟩, fun e he => by cases he⟩
    · rw [List.mem_singleton] at hb
      subst hb
      simp
    · obtain ⟨S, s1, s2, s3⟩ := tree_blk (bl := [⟨none, 0, [], none, 0, []⟩]) (h := 0) (lo := 0) (cols := cols) (t := .mk 0 none 0 [] none 0 []) ⟨_, rfl, rfl, rfl⟩ ⟨rfl, Nat.le_refl _, by simp [MT.es]⟩ (.inl rfl) hy (by simp [sizeM]) (by simp [sizeM]) List.Pairwise.nil (fun e he => by cases he)
      exact ⟨S, s1, s2, by rw [s3]; rfl⟩
  · have := of_decide_eq_true h1; omega
  · have h1 := of_decide_eq_false h1
    cases h2 : decide (cols > 20) with
    | true => have := of_decide_eq_true h2; exact hJ.1 (by omega)
    | false => have := of_decide_eq_false h2; exact hJ.2 (by omega)
end
end Go.Proofs.YtmelbipidffmpaaGreatDoor.Hw

/- Nodes: what is done to a node's own rows, each with what it touches. -/
set_option linter.unusedVariables false
set_option linter.unusedSimpArgs false
set_option linter.unusedSectionVars false
set_option maxRecDepth 20000
namespace Go.Proofs.YtmelbipidffmpaaGreatDoor.Hw
open Go Go.Proofs
section
variable {H H10 : Hp} {t : MT} {A' : Option Addr} {c' n' : Nat} {K : Hp → Prop}
theorem setE_fr {es' : List EnM} (N : NodeM H t) (nd : (own1 t).Nodup) (hn : n' = es'.length) (R : RowO H10 A' es'.length c' 2 (es'.flatMap enC)) (F : FrO H H10 t.eA A')
    (hk : ∀ H', NodeM H' (.mk t.g A' c' es' t.kA t.kc t.ks) → (own1 (.mk t.g A' c' es' t.kA t.kc t.ks)).Nodup → FrM H H' (own1 t) (own1 (.mk t.g A' c' es' t.kA t.kc t.ks)) → K H') : storeF H10 t.g (0 + 0) [.slice A' n' c'] K := by
  obtain ⟨n1, n2, n3⟩ := nd1 nd
  have tl : H t.g ≠ none := N.live t.g (by simp [own1])
  have h1 : ¬ rowB A' t.g := fun h => by
    rcases F.nw _ h with h | h
    · exact n1 h
    · exact tl h
  have keep : ∀ q, ¬ rowB t.eA q → H q ≠ none → H10 q = H q := fun q hq hn => Classical.byContradiction fun hne => by
    rcases F.ch q hne with h | h
    · exact hq h
    · exact hn h
  obtain ⟨ty, hc⟩ := N.cell
  have hc10 : ∃ ty, H10 t.g = some (.cells (nodeC t.eA t.es.length t.ec t.kA t.ks.length t.kc).toArray ty (0, 0)) := ⟨ty, (keep _ n1 (by rw [hc]; simp)).trans hc⟩
  have k10 : RowO H10 t.kA t.ks.length t.kc 1 (t.ks.flatMap ptC) := N.kr.keep fun q hq hn => keep q (fun h => n3 q h hq) hn
  refine setE' hc10 k10 hn R h1 n2 fun H12 N12 off lv => hk H12 N12 (nd_mk h1 n2 fun q hq hkq => ?_) ⟨fun q hq => ?_, fun q hq => ?_, fun q hq => ?_⟩
  · rcases F.nw q hq with h | h
    · exact n3 q h hkq
    · exact N.kr.live hkq h
  · by_cases e1 : q = t.g
    · subst e1; exact .inl (by simp [own1])
    · rw [off q e1] at hq
      rcases F.ch q hq with h | h
      · exact .inl (by simp [own1, blk_row, h])
      · exact .inr h
  · rcases List.mem_cons.1 hq with h | h
    · exact .inl (by rw [h]; simp [own1, MT.g])
    · rcases List.mem_append.1 h with h | h
      · rcases F.nw q (blk_row.1 h) with h | h
        · exact .inl (by simp [own1, blk_row, h])
        · exact .inr h
      · exact .inl (by simp only [own1, List.mem_cons, List.mem_append]; exact .inr (.inr h))
  · by_cases e1 : q = t.g
    · subst e1; exact lv
    · rw [off q e1]
      exact F.al q hq
theorem setK_fr {ks' : List MT} (N : NodeM H t) (nd : (own1 t).Nodup) (hn : n' = ks'.length) (R : RowO H10 A' ks'.length c' 1 (ks'.flatMap ptC)) (F : FrO H H10 t.kA A')
    (hk : ∀ H', NodeM H' (.mk t.g t.eA t.ec t.es A' c' ks') → (own1 (.mk t.g t.eA t.ec t.es A' c' ks')).Nodup → FrM H H' (own1 t) (own1 (.mk t.g t.eA t.ec t.es A' c' ks')) → K H') : storeF H10 t.g (0 + 1) [.slice A' n' c'] K := by
  obtain ⟨n1, n2, n3⟩ := nd1 nd
  have tl : H t.g ≠ none := N.live t.g (by simp [own1])
  have h1 : ¬ rowB A' t.g := fun h => by
    rcases F.nw _ h with h | h
    · exact n2 h
    · exact tl h
  have keep : ∀ q, ¬ rowB t.kA q → H q ≠ none → H10 q = H q := fun q hq hn => Classical.byContradiction fun hne => by
    rcases F.ch q hne with h | h
    · exact hq h
    · exact hn h
  obtain ⟨ty, hc⟩ := N.cell
  have hc10 : ∃ ty, H10 t.g = some (.cells (nodeC t.eA t.es.length t.ec t.kA t.ks.length t.kc).toArray ty (0, 0)) := ⟨ty, (keep _ n2 (by rw [hc]; simp)).trans hc⟩
  have k10 : RowO H10 t.eA t.es.length t.ec 2 (t.es.flatMap enC) := N.er.keep fun q hq hn => keep q (fun h => n3 q hq h) hn
  refine setK' hc10 k10 hn R h1 n1 fun H12 N12 off lv => hk H12 N12 (nd_mk n1 h1 fun q hq hkq => ?_) ⟨fun q hq => ?_, fun q hq => ?_, fun q hq => ?_⟩
  · rcases F.nw q hkq with h | h
    · exact n3 q hq h
    · exact N.er.live hq h
  · by_cases e1 : q = t.g
    · subst e1; exact .inl (by simp [own1])
    · rw [off q e1] at hq
      rcases F.ch q hq with h | h
      · exact .inl (by simp [own1, blk_row, h])
      · exact .inr h
  · rcases List.mem_cons.1 hq with h | h
    · exact .inl (by rw [h]; simp [own1, MT.g])
    · rcases List.mem_append.1 h with h | h
      · exact .inl (by simp only [own1, List.mem_cons, List.mem_append]; exact .inr (.inl h))
      · rcases F.nw q (blk_row.1 h) with h | h
        · exact .inl (by simp [own1, blk_row, h])
        · exact .inr h
  · by_cases e1 : q = t.g
    · subst e1; exact lv
    · rw [off q e1]
      exact F.al q hq
theorem FrO.cut {A : Option Addr} {p : Nat} {s : Bool} : FrO H H A (cutA A p s) := ⟨fun q h => absurd rfl h, fun q h => .inl (rowB_cut.1 h), fun q h => h⟩
/-- The first entries alone stay. -/
theorem cutE {m : Nat} (N : NodeM H t) (nd : (own1 t).Nodup) (hm : m ≤ t.es.length)
    (hk : ∀ H', NodeM H' (.mk t.g t.eA t.ec (t.es.take m) t.kA t.kc t.ks) → (own1 (.mk t.g t.eA t.ec (t.es.take m) t.kA t.kc t.ks)).Nodup → FrM H H' (own1 t) (own1 (.mk t.g t.eA t.ec (t.es.take m) t.kA t.kc t.ks)) → K H') : storeF H t.g (0 + 0) [.slice t.eA m t.ec] K := by
  have hl : (t.es.take m).length = m := by rw [List.length_take]; omega
  have R := N.er.take hm
  rw [flat_take enC_len] at R
  exact setE_fr N nd hl.symm (by rw [hl]; exact R) FrO.refl hk
theorem cutK {m : Nat} (N : NodeM H t) (nd : (own1 t).Nodup) (hm : m ≤ t.ks.length)
    (hk : ∀ H', NodeM H' (.mk t.g t.eA t.ec t.es t.kA t.kc (t.ks.take m)) → (own1 (.mk t.g t.eA t.ec t.es t.kA t.kc (t.ks.take m))).Nodup → FrM H H' (own1 t) (own1 (.mk t.g t.eA t.ec t.es t.kA t.kc (t.ks.take m))) → K H') : storeF H t.g (0 + 1) [.slice t.kA m t.kc] K := by
  have hl : (t.ks.take m).length = m := by rw [List.length_take]; omega
  have R := N.kr.take hm
  rw [flat_take ptC_len] at R
  exact setK_fr N nd hl.symm (by rw [hl]; exact R) FrO.refl hk
/-- The first ones go. -/
theorem dropE {p : Nat} (N : NodeM H t) (nd : (own1 t).Nodup) (hp : p < t.es.length)
    (hk : ∀ H' A' c', NodeM H' (.mk t.g A' c' (t.es.drop p) t.kA t.kc t.ks) → (own1 (.mk t.g A' c' (t.es.drop p) t.kA t.kc t.ks)).Nodup → FrM H H' (own1 t) (own1 (.mk t.g A' c' (t.es.drop p) t.kA t.kc t.ks)) → K H') : storeF H t.g (0 + 0) [.slice (cutA t.eA (p * 2) (decide (t.ec = p))) (t.es.length - p) (t.ec - p)] K := by
  have hle := N.er.le
  have hl : (t.es.drop p).length = t.es.length - p := by rw [List.length_drop]
  have R := N.er.drop (p := p) (by omega) (by omega)
  rw [flat_drop enC_len] at R
  exact setE_fr N nd hl.symm (by rw [hl]; exact R) FrO.cut fun H' a b c => hk H' _ _ a b c
theorem dropK {p : Nat} (N : NodeM H t) (nd : (own1 t).Nodup) (hp : p < t.ks.length)
    (hk : ∀ H' A' c', NodeM H' (.mk t.g t.eA t.ec t.es A' c' (t.ks.drop p)) → (own1 (.mk t.g t.eA t.ec t.es A' c' (t.ks.drop p))).Nodup → FrM H H' (own1 t) (own1 (.mk t.g t.eA t.ec t.es A' c' (t.ks.drop p))) → K H') : storeF H t.g (0 + 1) [.slice (cutA t.kA (p * 1) (decide (t.kc = p))) (t.ks.length - p) (t.kc - p)] K := by
  have hle := N.kr.le
  have hl : (t.ks.drop p).length = t.ks.length - p := by rw [List.length_drop]
  have R := N.kr.drop (p := p) (by omega) (by omega)
  rw [flat_drop ptC_len] at R
  exact setK_fr N nd hl.symm (by rw [hl]; exact R) FrO.cut fun H' a b c => hk H' _ _ a b c
/-- An entry gives way to another. -/
theorem writeE {i : Nat} {x : EnM} (N : NodeM H t) (nd : (own1 t).Nodup) (hi : i < t.es.length)
    (hk : ∀ H', NodeM H' (.mk t.g t.eA t.ec (t.es.set i x) t.kA t.kc t.ks) → (own1 (.mk t.g t.eA t.ec (t.es.set i x) t.kA t.kc t.ks)).Nodup → FrM H H' (own1 t) (own1 (.mk t.g t.eA t.ec (t.es.set i x) t.kA t.kc t.ks)) → K H') : onPtr t.eA fun b o => storeF H b (o + i * 2) (enC x) K := by
  obtain ⟨n1, n2, n3⟩ := nd1 nd
  have hle := N.er.le
  refine N.er.store (p := i) (m := 1) (n' := t.es.length) rfl (by omega) (by omega) (by omega) (by omega) fun H' R' F => hk H' ?_ nd ⟨fun q hq => (F.ch q hq).imp (fun h => by simp [own1, blk_row, h]) id, fun q hq => .inl hq, F.al⟩
  have keep : ∀ q, ¬ rowB t.eA q → H q ≠ none → H' q = H q := fun q hq hn => Classical.byContradiction fun hne => by
    rcases F.ch q hne with h | h
    · exact hq h
    · exact hn h
  rw [flat_set enC_len hi] at R'
  obtain ⟨ty, hc⟩ := N.cell
  have hl : (t.es.set i x).length = t.es.length := List.length_set
  refine ⟨⟨ty, ?_⟩, by show RowO H' t.eA (t.es.set i x).length _ _ _; rw [hl]; exact R', N.kr.keep fun q hq hn => keep q (fun h => n3 q h hq) hn⟩
  show H' t.g = some (.cells (nodeC t.eA (t.es.set i x).length t.ec t.kA t.ks.length t.kc).toArray ty (0, 0))
  rw [hl]
  exact (keep _ n1 (by rw [hc]; simp)).trans hc
/-- An entry, a kid, behind the others. -/
theorem apE {e : EnM} (N : NodeM H t) (nd : (own1 t).Nodup) (hs : t.es.length < 1000)
    (hk : ∀ H' A' c', NodeM H' (.mk t.g A' c' (t.es ++ [e]) t.kA t.kc t.ks) → (own1 (.mk t.g A' c' (t.es ++ [e]) t.kA t.kc t.ks)).Nodup → FrM H H' (own1 t) (own1 (.mk t.g A' c' (t.es ++ [e]) t.kA t.kc t.ks)) → K H') :
    newF H 46 (enC e) fun g H2 => appendF H2 46 2 32 t.eA t.es.length t.ec (some ⟨g, 0, none⟩) 1 fun A3 n3 c3 H4 => storeF H4 t.g (0 + 0) [.slice A3 n3 c3] K := by
  intro g hg
  have x8 : Ext H (upd g (.cells (enC e).toArray 46 (0, 0)) H) := Ext.new hg
  have N8 := N.ext x8
  refine N8.er.append (new := enC e) (cellsAt_one upd_at) rfl (enC_one e) (by unfold big; omega) (by omega) fun A' c' H10 R10 F10 _ => ?_
  have el : (t.es ++ [e]).length = t.es.length + 1 := by simp
  exact setE_fr N8 nd el.symm (by rw [el, List.flatMap_append]; simpa using R10) F10 fun H' a b c => hk H' A' c' a b ((FrM.ofExt x8).trans c)
theorem apK {v : MT} (N : NodeM H t) (nd : (own1 t).Nodup) (hs : t.ks.length < 1000)
    (hk : ∀ H' A' c', NodeM H' (.mk t.g t.eA t.ec t.es A' c' (t.ks ++ [v])) → (own1 (.mk t.g t.eA t.ec t.es A' c' (t.ks ++ [v]))).Nodup → FrM H H' (own1 t) (own1 (.mk t.g t.eA t.ec t.es A' c' (t.ks ++ [v]))) → K H') :
    newF H 86 [.pointer (some ⟨v.g, 0, none⟩)] fun g H2 => appendF H2 86 1 8 t.kA t.ks.length t.kc (some ⟨g, 0, none⟩) 1 fun A3 n3 c3 H4 => storeF H4 t.g (0 + 1) [.slice A3 n3 c3] K := by
  intro g hg
  have x8 : Ext H (upd g (.cells (ptC v).toArray 86 (0, 0)) H) := Ext.new hg
  have N8 := N.ext x8
  refine N8.kr.append (new := ptC v) (cellsAt_one upd_at) rfl (ptC_one v) (by unfold big; omega) (by omega) fun A' c' H10 R10 F10 _ => ?_
  have el : (t.ks ++ [v]).length = t.ks.length + 1 := by simp
  exact setK_fr N8 nd el.symm (by rw [el, List.flatMap_append]; simpa using R10) F10 fun H' a b c => hk H' A' c' a b ((FrM.ofExt x8).trans c)
/-- Kids of another node, behind a node's own. -/
theorem apKs {u : MT} (N : NodeM H t) (nd : (own1 t).Nodup) (Nu : NodeM H u) (hs : t.ks.length + u.ks.length < 1000)
    (hk : ∀ H' A' c', NodeM H' (.mk t.g t.eA t.ec t.es A' c' (t.ks ++ u.ks)) → (own1 (.mk t.g t.eA t.ec t.es A' c' (t.ks ++ u.ks))).Nodup → FrM H H' (own1 t) (own1 (.mk t.g t.eA t.ec t.es A' c' (t.ks ++ u.ks))) → K H') :
    appendF H 86 1 8 t.kA t.ks.length t.kc u.kA u.ks.length fun A3 n3 c3 H4 => storeF H4 t.g (0 + 1) [.slice A3 n3 c3] K := by
  refine N.kr.append (new := u.ks.flatMap ptC) (m := u.ks.length) Nu.kr.cells (flat_length fun x _ => ptC_len x) (fun v hv => by obtain ⟨x, _, hx⟩ := List.mem_flatMap.1 hv; exact ptC_one x v hx) (by unfold big; omega) (by omega) fun A' c' H10 R10 F10 _ => ?_
  have el : (t.ks ++ u.ks).length = t.ks.length + u.ks.length := by simp
  exact setK_fr N nd el.symm (by rw [el, List.flatMap_append]; exact R10) F10 fun H' a b c => hk H' A' c' a b c
/-- A kid is taken out. -/
theorem takeK {i : Nat} (N : NodeM H t) (nd : (own1 t).Nodup) (hi : i < t.ks.length) (hs : t.ks.length < 1000)
    (hk : ∀ H', NodeM H' (.mk t.g t.eA t.ec t.es t.kA t.kc (t.ks.take i ++ t.ks.drop (i + 1))) → (own1 (.mk t.g t.eA t.ec t.es t.kA t.kc (t.ks.take i ++ t.ks.drop (i + 1)))).Nodup → FrM H H' (own1 t) (own1 (.mk t.g t.eA t.ec t.es t.kA t.kc (t.ks.take i ++ t.ks.drop (i + 1)))) → K H') :
    HCalls Tryz.prog 125 [.slice t.kA t.ks.length t.kc, .int .i64 (i : Int), .int .i64 ((i + 1 : Nat) : Int)] H fun v9 H10 => ∃ (A11 : Option Addr) (n11 c11 : Nat), v9 = .slice A11 n11 c11 ∧ storeF H10 t.g (0 + 1) [.slice A11 n11 c11] K := by
  refine f125.ok _ _ _ _ _ ?_
  rw [f125_is]
  refine del_ok N.kr (by omega) rfl (fun v hv => by obtain ⟨x, _, hx⟩ := List.mem_flatMap.1 hv; exact ptC_one x v hx) (Nat.lt_succ_self i) (by omega) (by unfold big; omega) (by omega) fun H10 R10 F10 => ⟨_, _, _, rfl, ?_⟩
  rw [flat_take ptC_len, flat_drop ptC_len, ← List.flatMap_append] at R10
  have hl : (t.ks.take i ++ t.ks.drop (i + 1)).length = i + (t.ks.length - (i + 1)) := by simp; omega
  exact setK_fr N nd hl.symm (by rw [hl]; exact R10) F10 hk
end
end Go.Proofs.YtmelbipidffmpaaGreatDoor.Hw

/- A node and two kids beside each other: what is done to their own blocks. -/
set_option linter.unusedVariables false
set_option linter.unusedSimpArgs false
set_option linter.unusedSectionVars false
set_option maxRecDepth 20000
namespace Go.Proofs.YtmelbipidffmpaaGreatDoor.Hw
open Go Go.Proofs
theorem FrM.congr {H H' : Hp} {O O' P P' : List Nat} (F : FrM H H' O O') (h : ∀ q, q ∈ O → q ∈ P) (h' : ∀ q, q ∈ P' → q ∈ O') : FrM H H' P P' := ⟨fun q e => (F.ch q e).imp (h q) id, fun q hq => (F.nw q (h' q hq)).imp (h q) id, F.al⟩
/-- Three nodes, apart. -/
structure Tri (H0 H : Hp) (O : List Nat) (a b c : MT) : Prop where
  na : NodeM H a
  nb : NodeM H b
  nc : NodeM H c
  nd : (own1 a ++ own1 b ++ own1 c).Nodup
  fr : FrM H0 H O (own1 a ++ own1 b ++ own1 c)
section
variable {H0 H H' : Hp} {O : List Nat} {a b c a' b' c' : MT}
theorem Tri.nda (T : Tri H0 H O a b c) : (own1 a).Nodup := by
  have := T.nd
  rw [List.append_assoc, List.nodup_append] at this
  exact this.1
theorem Tri.s12 (T : Tri H0 H O a b c) : Tri H0 H O b a c := ⟨T.nb, T.na, T.nc, (List.Perm.append_right _ List.perm_append_comm).nodup_iff.1 T.nd, T.fr.congr (fun _ h => h) fun q h => by
  simp only [List.mem_append] at h ⊢
  rcases h with (h | h) | h <;> simp [h]⟩
theorem Tri.s23 (T : Tri H0 H O a b c) : Tri H0 H O a c b := ⟨T.na, T.nc, T.nb, (by
  have h := T.nd
  rw [List.append_assoc] at h ⊢
  exact (List.Perm.append_left _ List.perm_append_comm).nodup_iff.1 h), T.fr.congr (fun _ h => h) fun q h => by
  simp only [List.mem_append] at h ⊢
  rcases h with (h | h) | h <;> simp [h]⟩
theorem Tri.ndb (T : Tri H0 H O a b c) : (own1 b).Nodup := T.s12.nda
theorem Tri.ndc (T : Tri H0 H O a b c) : (own1 c).Nodup := T.s23.ndb
theorem Tri.put2 (T : Tri H0 H O a b c) (N' : NodeM H' b') (nd' : (own1 b').Nodup) (F : FrM H H' (own1 b) (own1 b')) : Tri H0 H' O a b' c := by
  have h := T.nd
  rw [List.append_assoc, List.nodup_append] at h
  obtain ⟨h1, h2, h3⟩ := h
  rw [List.nodup_append] at h2
  obtain ⟨h4, h5, h6⟩ := h2
  have sa : ∀ q ∈ own1 a, q ∉ own1 b := fun q hq hb => h3 q hq q (List.mem_append_left _ hb) rfl
  have sc : ∀ q ∈ own1 c, q ∉ own1 b := fun q hq hb => h6 q hb q hq rfl
  refine ⟨T.na.keep fun q hq => F.off (sa q hq) (T.na.live q hq), N', T.nc.keep fun q hq => F.off (sc q hq) (T.nc.live q hq), nodup_swap T.nd nd' fun q hq => ?_, T.fr.trans F.wide⟩
  rcases F.nw q hq with h | h
  · exact .inl h
  · exact .inr ⟨fun ha => T.na.live q ha h, fun hc => T.nc.live q hc h⟩
theorem Tri.put1 (T : Tri H0 H O a b c) (N' : NodeM H' a') (nd' : (own1 a').Nodup) (F : FrM H H' (own1 a) (own1 a')) : Tri H0 H' O a' b c := (T.s12.put2 N' nd' F).s12
theorem Tri.put3 (T : Tri H0 H O a b c) (N' : NodeM H' c') (nd' : (own1 c').Nodup) (F : FrM H H' (own1 c) (own1 c')) : Tri H0 H' O a b c' := (T.s23.put2 N' nd' F).s23
theorem NodeM.same {t : MT} {ks' : List MT} (N : NodeM H t) (h : ks'.flatMap ptC = t.ks.flatMap ptC) : NodeM H (.mk t.g t.eA t.ec t.es t.kA t.kc ks') := by
  have hl : ks'.length = t.ks.length := by
    have := congrArg List.length h
    rw [flat_length (k := 1) (fun x _ => ptC_len x), flat_length (k := 1) (fun x _ => ptC_len x)] at this
    omega
  obtain ⟨⟨ty, hc⟩, e, k⟩ := N
  rw [← hl] at hc k
  rw [← h] at k
  exact ⟨⟨ty, hc⟩, e, k⟩
/-- The kids' pointers alone stand in a node. -/
theorem Tri.same1 {ks' : List MT} (T : Tri H0 H O a b c) (h : ks'.flatMap ptC = a.ks.flatMap ptC) : Tri H0 H O (.mk a.g a.eA a.ec a.es a.kA a.kc ks') b c := ⟨T.na.same h, T.nb, T.nc, T.nd, T.fr⟩
end
section
variable {H0 H : Hp} {h : Nat} {t t' p q p' q' : MT} {K1 K2 L U : List MT}
/-- Some kids give way to some. -/
theorem sep_some (S : SepM (h + 1) t) (hk : t.ks = K1 ++ (U ++ K2)) (hlive : ∀ x ∈ ownM (h + 1) t, H x ≠ none) (hL : ∀ v ∈ L, SepM h v) (hLp : L.Pairwise (Apart h)) (hLn : ∀ v ∈ L, ∀ x ∈ ownM h v, (x ∈ own1 t ∨ ∃ u ∈ U, x ∈ ownM h u) ∨ H x = none)
    (ht : t'.ks = K1 ++ (L ++ K2)) (ho : (own1 t').Nodup) (hoq : ∀ x ∈ own1 t', ((x ∈ own1 t ∨ ∃ u ∈ U, x ∈ ownM h u) ∨ H x = none) ∧ ∀ v ∈ L, x ∉ ownM h v) : SepM (h + 1) t' := by
  obtain ⟨s1, s2, s3⟩ := S
  rw [hk] at s2 s3
  rw [List.pairwise_append, List.pairwise_append] at s3
  obtain ⟨p1, ⟨p2, p5, p4⟩, p3⟩ := s3
  have far : ∀ v, v ∈ K1 ∨ v ∈ K2 → ∀ x ∈ ownM h v, ¬ ((x ∈ own1 t ∨ ∃ u ∈ U, x ∈ ownM h u) ∨ H x = none) := fun v hv x hx hh => by
    have hv' : v ∈ K1 ++ (U ++ K2) := by rcases hv with hv | hv <;> simp [hv]
    rcases hh with (h1 | ⟨u, hu, h1⟩) | h1
    · exact (s2 v hv').2 x hx h1
    · rcases hv with hv | hv
      · exact p3 v hv u (List.mem_append_left _ hu) x hx h1
      · exact p4 u hu v hv x h1 hx
    · exact hlive x (own_mem.2 (.inr ⟨v, by rw [hk]; exact hv', hx⟩)) h1
  refine ⟨ho, fun v hv => ?_, ?_⟩
  · rw [ht] at hv
    have old : v ∈ K1 ∨ v ∈ K2 → SepM h v ∧ ∀ x ∈ ownM h v, x ∉ own1 t' := fun hv => ⟨(s2 v (by rcases hv with hv | hv <;> simp [hv])).1, fun x hx ho' => far v hv x hx (hoq x ho').1⟩
    rcases List.mem_append.1 hv with hv | hv
    · exact old (.inl hv)
    · rcases List.mem_append.1 hv with hv | hv
      · exact ⟨hL v hv, fun x hx ho' => (hoq x ho').2 v hv hx⟩
      · exact old (.inr hv)
  · rw [ht, List.pairwise_append, List.pairwise_append]
    refine ⟨p1, ⟨hLp, p5, fun v hv w hw x hx hxw => far w (.inr hw) x hxw (hLn v hv x hx)⟩, fun v hv w hw => ?_⟩
    rcases List.mem_append.1 hw with hw | hw
    · exact fun x hx hxw => far v (.inl hv) x hx (hLn w hw x hxw)
    · exact p3 v hv w (List.mem_append_right _ hw)
/-- What comes of a node and two kids of it. -/
theorem two_done (M : MemM H0 (h + 1) t) (S : SepM (h + 1) t) (hk : t.ks = K1 ++ ([p, q] ++ K2)) (T : Tri H0 H (own1 t ++ own1 p ++ own1 q) t' p' q') (hL : L = [p', q'] ∨ L = [p']) (hLk : L.flatMap MT.ks = p.ks ++ q.ks) (ht : t'.ks = K1 ++ (L ++ K2)) :
    MemM H (h + 1) t' ∧ SepM (h + 1) t' ∧ FrM H0 H (ownM (h + 1) t) (ownM (h + 1) t') := by
  obtain ⟨s1, s2, s3⟩ := id S
  have live := M.live
  have hp : p ∈ t.ks := by rw [hk]; simp
  have hq : q ∈ t.ks := by rw [hk]; simp
  have hpq : Apart h p q := by
    rw [hk, List.pairwise_append, List.pairwise_append] at s3
    have := s3.2.1.1
    rw [List.pairwise_cons] at this
    exact this.1 q (by simp)
  have oO : ∀ x, x ∈ own1 t ++ own1 p ++ own1 q → x ∈ own1 t ∨ x ∈ ownM h p ∨ x ∈ ownM h q := fun x hx => by
    simp only [List.mem_append] at hx
    rcases hx with (hx | hx) | hx
    · exact .inl hx
    · exact .inr (.inl (own1_sub hx))
    · exact .inr (.inr (own1_sub hx))
  have other : ∀ v, v ∈ K1 ∨ v ∈ K2 → v ∈ t.ks ∧ ∀ x ∈ ownM h v, x ∉ own1 t ++ own1 p ++ own1 q := fun v hv => by
    have hvt : v ∈ t.ks := by rw [hk]; rcases hv with hv | hv <;> simp [hv]
    have hsep : (∀ x ∈ ownM h v, x ∉ ownM h p) ∧ ∀ x ∈ ownM h v, x ∉ ownM h q := by
      rw [hk, List.pairwise_append, List.pairwise_append] at s3
      obtain ⟨_, ⟨_, _, p4⟩, p3⟩ := s3
      rcases hv with hv | hv
      · exact ⟨p3 v hv p (by simp), p3 v hv q (by simp)⟩
      · exact ⟨fun x hx h1 => p4 p (by simp) v hv x h1 hx, fun x hx h1 => p4 q (by simp) v hv x h1 hx⟩
    refine ⟨hvt, fun x hx ho => ?_⟩
    rcases oO x ho with h1 | h1 | h1
    · exact (s2 v hvt).2 x hx h1
    · exact hsep.1 x hx h1
    · exact hsep.2 x hx h1
  have off : ∀ x, x ∉ own1 t ++ own1 p ++ own1 q → H0 x ≠ none → H x = H0 x := fun x hx hn => T.fr.off hx hn
  -- the kids' kids
  have grand : ∀ (h' : Nat), h = h' + 1 → (∀ w ∈ p.ks ++ q.ks, MemM H0 h' w ∧ SepM h' w ∧ ∀ x ∈ ownM h' w, x ∉ own1 t ++ own1 p ++ own1 q) ∧ (p.ks ++ q.ks).Pairwise (Apart h') := fun h' e => by
    subst e
    obtain ⟨_, a2, a3⟩ := (s2 p hp).1
    obtain ⟨_, b2, b3⟩ := (s2 q hq).1
    refine ⟨fun w hw => ?_, List.pairwise_append.2 ⟨a3, b3, fun v hv w hw x h1 h2 => hpq x (own_mem.2 (.inr ⟨v, hv, h1⟩)) (own_mem.2 (.inr ⟨w, hw, h2⟩))⟩⟩
    rcases List.mem_append.1 hw with hw | hw
    · refine ⟨(M.2 p hp).2 w hw, (a2 w hw).1, fun x hx ho => ?_⟩
      have hxp : x ∈ ownM (h' + 1) p := own_mem.2 (.inr ⟨w, hw, hx⟩)
      simp only [List.mem_append] at ho
      rcases ho with (ho | ho) | ho
      · exact (s2 p hp).2 x hxp ho
      · exact (a2 w hw).2 x hx ho
      · exact hpq x hxp (own1_sub ho)
    · refine ⟨(M.2 q hq).2 w hw, (b2 w hw).1, fun x hx ho => ?_⟩
      have hxq : x ∈ ownM (h' + 1) q := own_mem.2 (.inr ⟨w, hw, hx⟩)
      simp only [List.mem_append] at ho
      rcases ho with (ho | ho) | ho
      · exact (s2 q hq).2 x hxq ho
      · exact hpq x (own1_sub ho) hxq
      · exact (b2 w hw).2 x hx ho
  have leaf : h = 0 → p.ks = [] ∧ q.ks = [] := fun e => by subst e; exact ⟨(M.2 p hp).2, (M.2 q hq).2⟩
  have inL : ∀ v ∈ L, ∀ w ∈ v.ks, w ∈ p.ks ++ q.ks := fun v hv w hw => by rw [← hLk]; exact List.mem_flatMap.2 ⟨v, hv, hw⟩
  have LT : ∀ v ∈ L, NodeM H v ∧ (own1 v).Nodup ∧ ∀ x ∈ own1 v, x ∈ own1 t' ++ own1 p' ++ own1 q' := fun v hv => by
    have hv : v = p' ∨ v = q' := by
      rcases hL with e | e
      · rw [e] at hv; simpa using hv
      · rw [e] at hv; exact .inl (by simpa using hv)
    rcases hv with rfl | rfl
    · exact ⟨T.nb, T.ndb, fun x hx => by simp [hx]⟩
    · exact ⟨T.nc, T.ndc, fun x hx => by simp [hx]⟩
  have nwO : ∀ x ∈ own1 t' ++ own1 p' ++ own1 q', x ∈ own1 t ++ own1 p ++ own1 q ∨ H0 x = none := T.fr.nw
  have grandOff : ∀ (h' : Nat), h = h' + 1 → ∀ w ∈ p.ks ++ q.ks, ∀ x ∈ ownM h' w, x ∉ own1 t' ++ own1 p' ++ own1 q' := fun h' e w hw x hx ho => by
    obtain ⟨g1, g2, g3⟩ := (grand h' e).1 w hw
    rcases nwO x ho with h1 | h1
    · exact g3 x hx h1
    · exact g1.live x hx h1
  have memL : ∀ v ∈ L, MemM H h v := fun v hv => by
    cases h with
    | zero =>
      refine ⟨(LT v hv).1, ?_⟩
      obtain ⟨e1, e2⟩ := leaf rfl
      cases hvk : v.ks with
      | nil => rfl
      | cons w r =>
        have := inL v hv w (by rw [hvk]; simp)
        rw [e1, e2] at this; simp at this
    | succ h' =>
      refine ⟨(LT v hv).1, fun w hw => ?_⟩
      obtain ⟨g1, g2, g3⟩ := (grand h' rfl).1 w (inL v hv w hw)
      exact g1.keep fun x hx => off x (g3 x hx) (g1.live x hx)
  have subL : ∀ v ∈ L, v.ks.Sublist (p.ks ++ q.ks) := fun v hv => by
    rw [← hLk]
    rcases hL with e | e <;> rw [e] at hv ⊢ <;> simp at hv
    · rcases hv with rfl | rfl
      · simp
      · simp
    · subst hv; simp
  have sepL : ∀ v ∈ L, SepM h v := fun v hv => by
    cases h with
    | zero => exact (LT v hv).2.1
    | succ h' =>
      refine ⟨(LT v hv).2.1, fun w hw => ⟨((grand h' rfl).1 w (inL v hv w hw)).2.1, fun x hx h1 => grandOff h' rfl w (inL v hv w hw) x hx ((LT v hv).2.2 x h1)⟩, (grand h' rfl).2.sublist (subL v hv)⟩
  have ownL : ∀ v ∈ L, ∀ x ∈ ownM h v, x ∈ own1 v ∨ ∃ h', h = h' + 1 ∧ ∃ w ∈ v.ks, x ∈ ownM h' w := fun v hv x hx => by
    cases h with
    | zero => exact .inl hx
    | succ h' => exact (own_mem.1 hx).imp id fun hw => ⟨h', rfl, hw⟩
  have oU : ∀ x, x ∈ own1 t ++ own1 p ++ own1 q → x ∈ own1 t ∨ ∃ u ∈ [p, q], x ∈ ownM h u := fun x hx => by
    rcases oO x hx with h1 | h1 | h1
    · exact .inl h1
    · exact .inr ⟨p, by simp, h1⟩
    · exact .inr ⟨q, by simp, h1⟩
  have newL : ∀ v ∈ L, ∀ x ∈ ownM h v, (x ∈ own1 t ∨ ∃ u ∈ [p, q], x ∈ ownM h u) ∨ H0 x = none := fun v hv x hx => by
    rcases ownL v hv x hx with h1 | ⟨h', e, w, hw, h1⟩
    · exact (nwO x ((LT v hv).2.2 x h1)).imp (oU x) id
    · subst e
      rcases List.mem_append.1 (inL v hv w hw) with h2 | h2
      · exact .inl (.inr ⟨p, by simp, own_mem.2 (.inr ⟨w, h2, h1⟩)⟩)
      · exact .inl (.inr ⟨q, by simp, own_mem.2 (.inr ⟨w, h2, h1⟩)⟩)
  have nd := T.nd
  rw [List.append_assoc, List.nodup_append, List.nodup_append] at nd
  obtain ⟨nd1', ⟨nd2, nd3, nd4⟩, nd5⟩ := nd
  have pq' : Apart h p' q' ∨ L = [p'] := by
    rcases hL with e | e
    · left
      intro x h1 h2
      rcases ownL p' (by rw [e]; simp) x h1 with h3 | ⟨h', e', w, hw, h3⟩
      · rcases ownL q' (by rw [e]; simp) x h2 with h4 | ⟨h', e', w, hw, h4⟩
        · exact nd4 x h3 x h4 rfl
        · exact grandOff h' e' w (inL q' (by rw [e]; simp) w hw) x h4 (by simp [h3])
      · subst e'
        rcases ownL q' (by rw [e]; simp) x h2 with h4 | ⟨h'', e'', w', hw', h4⟩
        · exact grandOff h' rfl w (inL p' (by rw [e]; simp) w hw) x h3 (by simp [h4])
        · cases e''
          have gp := (grand h' rfl).2
          rw [← hLk, e] at gp
          simp only [List.flatMap_cons, List.flatMap_nil, List.append_nil] at gp
          rw [List.pairwise_append] at gp
          exact gp.2.2 w hw w' hw' x h3 h4
    · exact .inr e
  have hLp : L.Pairwise (Apart h) := by
    rcases pq' with h1 | h1
    · rcases hL with e | e
      · rw [e]; simp [h1]
      · rw [e]; simp
    · rw [h1]; simp
  have tL : ∀ x ∈ own1 t', ∀ v ∈ L, x ∉ ownM h v := fun x hx v hv h1 => by
    rcases ownL v hv x h1 with h2 | ⟨h', e', w, hw, h2⟩
    · have hv' : v = p' ∨ v = q' := by
        rcases hL with e | e
        · rw [e] at hv; simpa using hv
        · rw [e] at hv; exact .inl (by simpa using hv)
      rcases hv' with rfl | rfl
      · exact nd5 x hx x (List.mem_append_left _ h2) rfl
      · exact nd5 x hx x (List.mem_append_right _ h2) rfl
    · exact grandOff h' e' w (inL v hv w hw) x h2 (by simp [hx])
  have inO : ∀ x, (x ∈ own1 t ∨ ∃ u ∈ [p, q], x ∈ ownM h u) → x ∈ ownM (h + 1) t := fun x hx => by
    rcases hx with h1 | ⟨u, hu, h1⟩
    · exact own_mem.2 (.inl h1)
    · refine own_mem.2 (.inr ⟨u, ?_, h1⟩)
      rw [hk]
      simp only [List.mem_append]
      exact .inr (.inl hu)
  refine ⟨⟨T.na, fun v hv => ?_⟩, sep_some (U := [p, q]) S hk live sepL hLp newL ht nd1' fun x hx => ⟨(nwO x (by simp [hx])).imp (oU x) id, tL x hx⟩, fun x hx => ?_, fun x hx => ?_, T.fr.al⟩
  · rw [ht] at hv
    have old : v ∈ K1 ∨ v ∈ K2 → MemM H h v := fun hv => (M.2 v (other v hv).1).keep fun x hx => off x ((other v hv).2 x hx) ((M.2 v (other v hv).1).live x hx)
    rcases List.mem_append.1 hv with hv | hv
    · exact old (.inl hv)
    · rcases List.mem_append.1 hv with hv | hv
      · exact memL v hv
      · exact old (.inr hv)
  · exact (T.fr.ch x hx).imp (fun h1 => inO x (oU x h1)) id
  · rcases own_mem.1 hx with h1 | ⟨v, hv, h1⟩
    · exact (nwO x (by simp [h1])).imp (fun h1 => inO x (oU x h1)) id
    · rw [ht] at hv
      rcases List.mem_append.1 hv with hv | hv
      · exact .inl (own_mem.2 (.inr ⟨v, (other v (.inl hv)).1, h1⟩))
      · rcases List.mem_append.1 hv with hv | hv
        · exact (newL v hv x h1).imp (inO x) id
        · exact .inl (own_mem.2 (.inr ⟨v, (other v (.inr hv)).1, h1⟩))
end
end Go.Proofs.YtmelbipidffmpaaGreatDoor.Hw

/- What two kids and the entry between hold, plain. -/
set_option linter.unusedVariables false
set_option linter.unusedSimpArgs false
set_option linter.unusedSectionVars false
set_option maxRecDepth 20000
namespace Go.Proofs.YtmelbipidffmpaaGreatDoor.Hw
open Go Go.Proofs
section
variable {h : Nat} {t t' p q p' q' : MT} {K1 K2 : List MT} {E1 E2 : List EnM} {s s' x : EnM}
theorem flat_pair (hk : t.ks = K1 ++ ([p, q] ++ K2)) (he : t.es = E1 ++ s :: E2) (hl : K1.length = E1.length) : flatM (h + 1) t = zipE (K1.map (flatM h)) E1 ++ ((flatM h p ++ s :: flatM h q) ++ restE (K2.map (flatM h)) E2) := by
  show inter (t.ks.map (flatM h)) t.es = _
  rw [hk, he, List.map_append, inter_app (by rw [List.length_map]; exact hl)]
  show _ ++ (flatM h p ++ s :: inter ((q :: K2).map (flatM h)) E2) = _
  rw [List.map_cons, inter_head]
  simp
theorem flat_one (hk : t.ks = K1 ++ ([p] ++ K2)) (he : t.es = E1 ++ E2) (hl : K1.length = E1.length) : flatM (h + 1) t = zipE (K1.map (flatM h)) E1 ++ (flatM h p ++ restE (K2.map (flatM h)) E2) := by
  show inter (t.ks.map (flatM h)) t.es = _
  rw [hk, he, List.map_append, inter_app (by rw [List.length_map]; exact hl)]
  show _ ++ inter (flatM h p :: K2.map (flatM h)) E2 = _
  rw [inter_head]
/-- The last entry, and the last kid, of the left one go over. -/
theorem flat_left {Pe : List EnM} {Pk : List MT} {z : MT} (e1 : p.es = Pe ++ [x]) (e2 : p'.es = Pe) (e3 : q'.es = s :: q.es) (hz : h = 0 ∨ (p.ks = Pk ++ [z] ∧ Pk.length = Pe.length + 1 ∧ p'.ks = Pk ∧ q'.ks = z :: q.ks)) :
    flatM h p' ++ x :: flatM h q' = flatM h p ++ s :: flatM h q := by
  cases h with
  | zero =>
    show p'.es ++ x :: q'.es = p.es ++ s :: q.es
    rw [e1, e2, e3]; simp
  | succ h =>
    obtain ⟨k1, k2, k3, k4⟩ := hz.resolve_left (by omega)
    show inter (p'.ks.map (flatM h)) p'.es ++ x :: inter (q'.ks.map (flatM h)) q'.es = inter (p.ks.map (flatM h)) p.es ++ s :: inter (q.ks.map (flatM h)) q.es
    rw [k3, k4, k1, e1, e2, e3, List.map_append, List.map_cons, inter_mid (by rw [List.length_map]; exact k2)]
    simp [inter]
/-- The first entry, and the first kid, of the right one go over. -/
theorem flat_right {Qe : List EnM} {Qk : List MT} {z : MT} (e1 : q.es = x :: Qe) (e2 : q'.es = Qe) (e3 : p'.es = p.es ++ [s]) (hz : h = 0 ∨ (q.ks = z :: Qk ∧ p.ks.length = p.es.length + 1 ∧ q'.ks = Qk ∧ p'.ks = p.ks ++ [z])) :
    flatM h p' ++ x :: flatM h q' = flatM h p ++ s :: flatM h q := by
  cases h with
  | zero =>
    show p'.es ++ x :: q'.es = p.es ++ s :: q.es
    rw [e1, e2, e3]; simp
  | succ h =>
    obtain ⟨k1, k2, k3, k4⟩ := hz.resolve_left (by omega)
    show inter (p'.ks.map (flatM h)) p'.es ++ x :: inter (q'.ks.map (flatM h)) q'.es = inter (p.ks.map (flatM h)) p.es ++ s :: inter (q.ks.map (flatM h)) q.es
    rw [k3, k4, k1, e1, e2, e3, List.map_append, List.map_cons, inter_mid (by rw [List.length_map]; exact k2)]
    simp [inter]
/-- Both, and the entry between, in one. -/
theorem flat_both (e1 : p'.es = p.es ++ s :: q.es) (hz : h = 0 ∨ (p.ks.length = p.es.length + 1 ∧ p'.ks = p.ks ++ q.ks)) : flatM h p' = flatM h p ++ s :: flatM h q := by
  cases h with
  | zero => exact e1
  | succ h =>
    obtain ⟨k2, k3⟩ := hz.resolve_left (by omega)
    show inter (p'.ks.map (flatM h)) p'.es = inter (p.ks.map (flatM h)) p.es ++ s :: inter (q.ks.map (flatM h)) q.es
    rw [k3, e1, List.map_append, inter_mid (by rw [List.length_map]; exact k2)]
theorem full_of {lo : Nat} (h0 : h = 0 → t.ks = []) (hk : ∀ h', h = h' + 1 → t.ks.length = t.es.length + 1 ∧ ∀ v ∈ t.ks, FullM 3 8 h' v) (h1 : lo ≤ t.es.length) (h2 : t.es.length ≤ 8) : FullM lo 8 h t := by
  cases h with
  | zero => exact ⟨h0 rfl, h1, h2⟩
  | succ h => exact ⟨(hk h rfl).1, h1, h2, (hk h rfl).2⟩
theorem full_kids {lo hi : Nat} (F : FullM lo hi h t) : (h = 0 → t.ks = []) ∧ ∀ h', h = h' + 1 → t.ks.length = t.es.length + 1 ∧ ∀ v ∈ t.ks, FullM 3 8 h' v := by
  cases h with
  | zero => exact ⟨fun _ => F.1, fun h' e => by omega⟩
  | succ h => exact ⟨fun e => by omega, fun h' e => by cases e; exact ⟨F.1, F.2.2.2⟩⟩
end
end Go.Proofs.YtmelbipidffmpaaGreatDoor.Hw

/- Nodes: an entry goes over from the left, from the right. -/
set_option linter.unusedVariables false
set_option linter.unusedSimpArgs false
set_option linter.unusedSectionVars false
set_option maxRecDepth 20000
namespace Go.Proofs.YtmelbipidffmpaaGreatDoor.Hw
open Go Go.Proofs
theorem onPtr_at {b o : Nat} {K : Nat → Nat → Prop} : onPtr (some ⟨b, o, none⟩) K = K b o := rfl
theorem get_last {α : Type} {l : List α} {x : α} : (l ++ [x])[l.length]? = some x := by simp
section
variable {H0 H : Hp} {O : List Nat} {t p q : MT} {j : Nat} {s x : EnM} {Q : Value → Hp → Prop}
theorem c103 {Pe : List EnM} (T : Tri H0 H O t p q) (hp : t.ks[j]? = some p) (hq' : t.ks[j + 1]? = some q) (hs : t.es[j]? = some s) (hx : p.es = Pe ++ [x]) (hk : p.ks = [] ∨ ∃ Pk z, p.ks = Pk ++ [z] ∧ Pk.length = Pe.length + 1)
    (b1 : t.es.length < 900) (b2 : t.ks.length < 900) (b3 : p.es.length < 900) (b4 : q.es.length < 900) (b5 : q.ks.length < 900)
    (hq : ∀ H' t' p' q', Tri H0 H' O t' p' q' → t'.g = t.g → t'.ks = t.ks → t'.es = t.es.set j x → p'.g = p.g → p'.es = Pe → q'.g = q.g → q'.es = s :: q.es →
      ((p.ks = [] ∧ p'.ks = [] ∧ q'.ks = q.ks) ∨ ∃ Pk z, p.ks = Pk ++ [z] ∧ Pk.length = Pe.length + 1 ∧ p'.ks = Pk ∧ q'.ks = z :: q.ks) → Q (.tuple #[]) H') :
    HCalls Tryz.prog 103 [.pointer (some ⟨t.g, 0, none⟩), .int .i64 ((j + 1 : Nat) : Int)] H Q := by
  have jt := (List.getElem?_eq_some_iff.1 hp).1
  have jt' := (List.getElem?_eq_some_iff.1 hq').1
  have je := (List.getElem?_eq_some_iff.1 hs).1
  have pl : p.es.length = Pe.length + 1 := by rw [hx]; simp
  have ew : IntKind.i64.wrap (((j + 1 : Nat) : Int) - 1) = (j : Int) := by rw [wrap_id (by omega) (by omega)]; omega
  have em : IntKind.i64.wrap (((p.es.length : Nat) : Int) - 1) = ((Pe.length : Nat) : Int) := by rw [wrap_id (by omega) (by omega)]; omega
  have em1 : IntKind.i64.wrap (((Pe.length : Nat) : Int) + 1) = ((Pe.length + 1 : Nat) : Int) := by rw [wrap_id (by omega) (by omega)]; omega
  refine f103.ok _ _ _ ?_
  unfold f103
  rw [ew]
  refine ⟨_, _, _, T.na.cl1, by omega, by omega, rd_pt (T.na.ksAt (by unfold huge; omega)) hp fun q1 o1 _ kp => ⟨_, by simpa using kp, _, _, _, T.na.cl1, by omega, by omega, rd_pt (T.na.ksAt (by unfold huge; omega)) hq' fun q2 o2 _ kq => ⟨_, by simpa using kq, onPtrI ⟨_, _, _, T.nb.cl0, onPtrI ⟨_, _, _, T.nc.cl0, _, _, _, T.na.cl0, by omega, by omega, rd_en (T.na.esAt (by unfold huge; omega)) hs fun q3 o3 _ k1 k2 => ⟨_, _, _, by simpa using k1, _, by simpa using k2, ?_⟩⟩⟩⟩⟩⟩
  rw [em, em1]
  simp only [onPtr_at, Int.toNat_natCast]
  refine insE (i := 0) T.nc T.ndc (Nat.zero_le _) (by omega) fun H21 A21 c21 N21 nd21 F21 => ?_
  have T1 := T.put3 N21 nd21 F21
  have hxm : p.es[Pe.length]? = some x := by rw [hx]; exact get_last
  refine ⟨_, _, _, T1.na.cl0, _, _, _, T1.nb.cl0, by omega, by omega, rd_en (T1.nb.esAt (by unfold huge; omega)) hxm fun q4 o4 _ k1 k2 => ⟨_, _, _, by simpa using k1, _, by simpa using k2, by omega, by omega, ?_⟩⟩
  refine writeE (x := x) T1.na T1.nda je fun H29 N29 nd29 F29 => ?_
  have T2 := T1.put1 N29 nd29 F29
  have hle := T2.nb.er.le
  refine ⟨_, _, _, T2.nb.cl0, by omega, by omega, ?_⟩
  simp only [cut_zero, Nat.sub_zero]
  refine cutE (t := p) T2.nb T2.ndb (m := Pe.length) (by omega) fun H33 N33 nd33 F33 => ?_
  have T3 := T2.put2 N33 nd33 F33
  have eP : p.es.take Pe.length = Pe := by rw [hx, List.take_left' rfl]
  refine ⟨_, _, _, T3.nb.cl1, ?_⟩
  rcases hk with hk | ⟨Pk, z, hk, hkl⟩
  · refine cndF ?_ (hq H33 _ _ _ T3 rfl rfl rfl rfl eP rfl (by simp [MT.es]) (.inl ⟨hk, hk, rfl⟩))
    show decide (((p.ks.length : Nat) : Int) > 0) = false
    rw [hk]; rfl
  · have hkn : p.ks.length = Pe.length + 2 := by rw [hk]; simp; omega
    have hzm : p.ks[Pe.length + 1]? = some z := by rw [hk, ← hkl]; exact get_last
    refine cndT (decide_eq_true (by show ((p.ks.length : Nat) : Int) > 0; omega)) ⟨_, _, _, T3.nc.cl1, _, _, _, T3.nb.cl1, by omega, by show ((Pe.length + 1 : Nat) : Int) < ((p.ks.length : Nat) : Int); omega, rd_pt (T3.nb.ksAt (by show p.ks.length < huge; unfold huge; omega)) hzm fun q5 o5 _ kz => ⟨_, by simpa using kz, ?_⟩⟩
    refine insK (v := z) (i := 0) T3.nc T3.ndc (Nat.zero_le _) (by show q.ks.length < 1000; omega) fun H48 A48 c48 N48 nd48 F48 => ?_
    have T4 := T3.put3 N48 nd48 F48
    have hle4 := T4.nb.kr.le
    have hle4 : p.ks.length ≤ p.kc := hle4
    refine ⟨_, _, _, T4.nb.cl1, by omega, by show ((Pe.length + 1 : Nat) : Int) ≤ ((p.kc : Nat) : Int); omega, ?_⟩
    refine cutK (t := .mk p.g p.eA p.ec (p.es.take Pe.length) p.kA p.kc p.ks) T4.nb T4.ndb (m := Pe.length + 1) (by show Pe.length + 1 ≤ p.ks.length; omega) fun H52 N52 nd52 F52 => ?_
    have T5 := T4.put2 N52 nd52 F52
    exact hq H52 _ _ _ T5 rfl rfl rfl rfl eP rfl (by simp [MT.es]) (.inr ⟨Pk, z, hk, hkl, by show p.ks.take (Pe.length + 1) = Pk; rw [hk, ← hkl, List.take_left' rfl], by simp [MT.ks]⟩)
theorem c104 {Qe : List EnM} (T : Tri H0 H O t p q) (hp : t.ks[j]? = some p) (hq' : t.ks[j + 1]? = some q) (hs : t.es[j]? = some s) (hx : q.es = x :: Qe) (b0 : 1 ≤ Qe.length) (hk : q.ks = [] ∨ ∃ z Qk, q.ks = z :: Qk ∧ 1 ≤ Qk.length)
    (b1 : t.es.length < 900) (b2 : t.ks.length < 900) (b3 : p.es.length < 900) (b4 : q.es.length < 900) (b5 : p.ks.length < 900) (b6 : q.ks.length < 900)
    (hq : ∀ H' t' p' q', Tri H0 H' O t' p' q' → t'.g = t.g → t'.ks = t.ks → t'.es = t.es.set j x → p'.g = p.g → p'.es = p.es ++ [s] → q'.g = q.g → q'.es = Qe →
      ((q.ks = [] ∧ q'.ks = [] ∧ p'.ks = p.ks) ∨ ∃ z Qk, q.ks = z :: Qk ∧ q'.ks = Qk ∧ p'.ks = p.ks ++ [z]) → Q (.tuple #[]) H') :
    HCalls Tryz.prog 104 [.pointer (some ⟨t.g, 0, none⟩), .int .i64 ((j : Nat) : Int)] H Q := by
  have jt := (List.getElem?_eq_some_iff.1 hp).1
  have jt' := (List.getElem?_eq_some_iff.1 hq').1
  have je := (List.getElem?_eq_some_iff.1 hs).1
  have ql : q.es.length = Qe.length + 1 := by rw [hx]; simp
  have ew : IntKind.i64.wrap (((j : Nat) : Int) + 1) = ((j + 1 : Nat) : Int) := by rw [wrap_id (by omega) (by omega)]; omega
  refine f104.ok _ _ _ ?_
  unfold f104
  rw [ew]
  refine ⟨_, _, _, T.na.cl1, by omega, by omega, rd_pt (T.na.ksAt (by unfold huge; omega)) hp fun q1 o1 _ kp => ⟨_, by simpa using kp, _, _, _, T.na.cl1, by omega, by omega, rd_pt (T.na.ksAt (by unfold huge; omega)) hq' fun q2 o2 _ kq => ⟨_, by simpa using kq, onPtrI ⟨_, _, _, T.nb.cl0, _, _, _, T.na.cl0, by omega, by omega, rd_en (T.na.esAt (by unfold huge; omega)) hs fun q3 o3 _ k1 k2 => ⟨_, _, _, by simpa using k1, _, by simpa using k2, ?_⟩⟩⟩⟩⟩
  simp only [onPtr_at, Int.toNat_natCast]
  refine apE (e := s) T.nb T.ndb (by omega) fun H18 A18 c18 N18 nd18 F18 => ?_
  have T1 := T.put2 N18 nd18 F18
  have hxm : q.es[0]? = some x := by rw [hx]; rfl
  refine ⟨_, _, _, T1.na.cl0, _, _, _, T1.nc.cl0, by omega, by omega, rd_en (T1.nc.esAt (by unfold huge; omega)) hxm fun q4 o4 _ k1 k2 => ⟨_, _, _, by simpa using k1, _, by simpa using k2, by omega, by omega, ?_⟩⟩
  refine writeE (x := x) T1.na T1.nda je fun H26 N26 nd26 F26 => ?_
  have T2 := T1.put1 N26 nd26 F26
  refine ⟨_, _, _, T2.nc.cl0, by omega, by omega, ?_⟩
  refine dropE (p := 1) T2.nc T2.ndc (by omega) fun H30 A30 c30 N30 nd30 F30 => ?_
  have T3 := T2.put3 N30 nd30 F30
  have eQ : q.es.drop 1 = Qe := by rw [hx]; rfl
  refine ⟨_, _, _, T3.nc.cl1, ?_⟩
  rcases hk with hk | ⟨z, Qk, hk, hk1⟩
  · refine cndF ?_ (hq H30 _ _ _ T3 rfl rfl rfl rfl rfl rfl eQ (.inl ⟨hk, hk, rfl⟩))
    show decide (((q.ks.length : Nat) : Int) > 0) = false
    rw [hk]; rfl
  · have hkn : q.ks.length = Qk.length + 1 := by rw [hk]; simp
    have hzm : q.ks[0]? = some z := by rw [hk]; rfl
    refine cndT (decide_eq_true (by show ((q.ks.length : Nat) : Int) > 0; omega)) ⟨_, _, _, T3.nb.cl1, _, _, _, T3.nc.cl1, by omega, by show (0 : Int) < ((q.ks.length : Nat) : Int); omega, rd_pt (T3.nc.ksAt (by show q.ks.length < huge; unfold huge; omega)) hzm fun q5 o5 _ kz => ⟨_, by simpa using kz, ?_⟩⟩
    refine apK (v := z) T3.nb T3.ndb (by show p.ks.length < 1000; omega) fun H44 A44 c44 N44 nd44 F44 => ?_
    have T4 := T3.put2 N44 nd44 F44
    refine ⟨_, _, _, T4.nc.cl1, by omega, by show (1 : Int) ≤ ((q.ks.length : Nat) : Int); omega, ?_⟩
    refine dropK (t := .mk q.g A30 c30 (q.es.drop 1) q.kA q.kc q.ks) (p := 1) T4.nc T4.ndc (by show 1 < q.ks.length; omega) fun H48 A48 c48 N48 nd48 F48 => ?_
    have T5 := T4.put3 N48 nd48 F48
    exact hq H48 _ _ _ T5 rfl rfl rfl rfl rfl rfl eQ (.inr ⟨z, Qk, hk, by show q.ks.drop 1 = Qk; rw [hk]; rfl, rfl⟩)
end
end Go.Proofs.YtmelbipidffmpaaGreatDoor.Hw

/- What functions of the program come to, by the evaluator: printed by a program of this session (gen.py) and checked here. -/
set_option linter.unusedVariables false
set_option maxRecDepth 100000
namespace Go.Proofs.YtmelbipidffmpaaGreatDoor.Hw
open Go Go.Proofs

/-- slices.Concat[[]justiciar api.Entry,justiciar api.Entry] -/
def f124 (pslices_A : Option Addr) (pslices_n pslices_c : Nat) (H : Hp) (Q : Value → Hp → Prop) : Prop :=
  LoopF (σ := (Int × (Int × Unit)) × Unit) ((0, (0, ())), ()) H fun s1 H2 next3 => cnd (decide ((s1.1.2.1 : Int) < ((pslices_n : Nat) : Int))) (0 ≤ (s1.1.2.1 : Int) ∧ (s1.1.2.1 : Int) < ((pslices_n : Nat) : Int) ∧ onPtr
    pslices_A fun b4 o4 => ∃ (A5 : Option Addr) (n5 c5 : Nat), cl H2 b4 (o4 + (s1.1.2.1 : Int).toNat * 1) = some (.slice A5 n5 c5) ∧ cnd (decide ((IntKind.i64.wrap (s1.1.1 + ((n5 : Nat) : Int)) : Int) < 0)) (False) (KeepX
    [some (.v (.slice pslices_A pslices_n pslices_c)), some (.v (.slice pslices_A pslices_n pslices_c)), some (.v (.int .i64 ((pslices_n : Nat) : Int)))] [] ∧ next3 ((IntKind.i64.wrap (s1.1.1 + ((n5 : Nat) : Int)),
    (IntKind.i64.wrap (s1.1.2.1 + 1), ())), ()) H2)) (HCalls Tryz.prog 137 [.slice none 0 0, .int .i64 s1.1.1] H2 fun v6 H7 => ∃ (A8 : Option Addr) (n8 c8 : Nat), v6 = .slice A8 n8 c8 ∧ LoopF (σ := ((Option Addr × Nat ×
    Nat) × (Int × Unit)) × Unit) (((A8, n8, c8), (0, ())), ()) H7 fun s9 H10 next11 => cnd (decide ((s9.1.2.1 : Int) < ((pslices_n : Nat) : Int))) (0 ≤ (s9.1.2.1 : Int) ∧ (s9.1.2.1 : Int) < ((pslices_n : Nat) : Int) ∧
    onPtr pslices_A fun b12 o12 => ∃ (A13 : Option Addr) (n13 c13 : Nat), cl H10 b12 (o12 + (s9.1.2.1 : Int).toNat * 1) = some (.slice A13 n13 c13) ∧ appendF H10 46 2 32 s9.1.1.1 s9.1.1.2.1 s9.1.1.2.2 A13 n13 fun A14 n14
    c14 H15 => KeepX [some (.v (.slice pslices_A pslices_n pslices_c)), some (.v (.int .i64 ((pslices_n : Nat) : Int)))] [] ∧ next11 (((A14, n14, c14), (IntKind.i64.wrap (s9.1.2.1 + 1), ())), ()) H15) (Q (.slice s9.1.1.1
    s9.1.1.2.1 s9.1.1.2.2) H10))
noncomputable def fcx124 : Cx := cx 36 [] [(3, ⟨[0, 9, 10], [], [(3, .int .i64), (11, .int .i64)], []⟩), (11, ⟨[25, 26], [], [(6, .slice), (27, .int .i64)], []⟩)] [] []
theorem f124.eq (pslices_A : Option Addr) (pslices_n pslices_c : Nat) (H : Hp) (Q : Value → Hp → Prop) : f124 pslices_A pslices_n pslices_c H Q = wFun fcx124 Tryz.f124 [.slice pslices_A pslices_n pslices_c] H Q := by kernel_rfl
theorem f124.ok (pslices_A : Option Addr) (pslices_n pslices_c : Nat) {H : Hp} {Q : Value → Hp → Prop} (h : f124 pslices_A pslices_n pslices_c H Q) : HCalls Tryz.prog 124 [.slice pslices_A pslices_n pslices_c] H Q := hcalls_of (cxOk _ _ _ _ _) Tryz.func124 (Eq.mp (f124.eq pslices_A pslices_n pslices_c H Q) h)

/-- slices.Grow[[]justiciar api.Entry,justiciar api.Entry] -/
def f137 (ps_A : Option Addr) (ps_n ps_c : Nat) (pn : Int) (H : Hp) (Q : Value → Hp → Prop) : Prop :=
  cnd (decide ((pn : Int) < 0)) (False) (jn (fun (jA3 : Option Addr) (jn4 : Nat) (jc5 : Nat) (H6 : Hp) => Q (.slice jA3 jn4 jc5) H6) fun J7 => cnd (decide ((IntKind.i64.wrap (pn - (IntKind.i64.wrap (((ps_c : Nat) : Int) -
    ((ps_n : Nat) : Int)))) : Int) > 0)) (0 ≤ (((ps_c : Nat) : Int) : Int) ∧ (((ps_c : Nat) : Int) : Int) ≤ ((ps_c : Nat) : Int) ∧ appendZF H 46 2 32 [.slice none 0 0, .int .i64 0] (cutA ps_A (0 * 2) (decide (ps_c = 0)))
    (((((ps_c : Nat) : Int) : Int).toNat) - 0) (ps_c - 0) (IntKind.i64.wrap (pn - (IntKind.i64.wrap (((ps_c : Nat) : Int) - ((ps_n : Nat) : Int))))) fun A1 n1 c1 H2 => 0 ≤ (((ps_n : Nat) : Int) : Int) ∧ (((ps_n : Nat) :
    Int) : Int) ≤ ((c1 : Nat) : Int) ∧ J7 (cutA A1 (0 * 2) (decide (c1 = 0))) (((((ps_n : Nat) : Int) : Int).toNat) - 0) (c1 - 0) H2) (J7 ps_A ps_n ps_c H))
noncomputable def fcx137 : Cx := cx 27 [] [] [] []
theorem f137.eq (ps_A : Option Addr) (ps_n ps_c : Nat) (pn : Int) (H : Hp) (Q : Value → Hp → Prop) : f137 ps_A ps_n ps_c pn H Q = wFun fcx137 Tryz.f137 [.slice ps_A ps_n ps_c, .int .i64 pn] H Q := by kernel_rfl
theorem f137.ok (ps_A : Option Addr) (ps_n ps_c : Nat) (pn : Int) {H : Hp} {Q : Value → Hp → Prop} (h : f137 ps_A ps_n ps_c pn H Q) : HCalls Tryz.prog 137 [.slice ps_A ps_n ps_c, .int .i64 pn] H Q := hcalls_of (cxOk _ _ _ _ _) Tryz.func137 (Eq.mp (f137.eq ps_A ps_n ps_c pn H Q) h)

end Go.Proofs.YtmelbipidffmpaaGreatDoor.Hw

/- Nodes grown out of blocks. -/
set_option linter.unusedVariables false
set_option linter.unusedSimpArgs false
set_option linter.unusedSectionVars false
set_option maxRecDepth 20000
namespace Go.Proofs.YtmelbipidffmpaaGreatDoor.Hw
open Go Go.Proofs
/-- A node under way: made of new blocks, its keys elsewhere. -/
structure GrowN (H H' : Hp) (h : Nat) (t : MT) : Prop where
  ext : Ext H H'
  node : NodeM H' t
  mem : ∀ u ∈ t.ks, MemM H' h u
  sep : SepM (h + 1) t
  hid : ∀ q ∈ ownM (h + 1) t, H q = none
  key : ∀ e, (e ∈ t.es ∨ ∃ u ∈ t.ks, e ∈ flatM h u) → KeyAt H' e ∧ (e.key ≠ [] → ∀ q, rowB e.A q → q ∉ ownM (h + 1) t)
section
variable {H H1 H2 : Hp} {h : Nat} {t u : MT}
theorem GrowN.live (G : GrowN H H1 h t) : ∀ q ∈ ownM (h + 1) t, H1 q ≠ none := fun q hq => by
  rcases own_mem.1 hq with h1 | ⟨u, hu, h1⟩
  · exact G.node.live q h1
  · exact (G.mem u hu).live q h1
theorem GrowN.more (G : GrowN H H1 h t) (hx : Ext H1 H2) : GrowN H H2 h t := ⟨G.ext.trans hx, G.node.ext hx, fun u hu => (G.mem u hu).ext hx, G.sep, G.hid, fun e he => ⟨(G.key e he).1.ext hx, (G.key e he).2⟩⟩
theorem KeyAt.off {H H' : Hp} {e : EnM} {O O' : List Nat} (h : KeyAt H e) (F : FrM H H' O O') (hk : e.key ≠ [] → ∀ q, rowB e.A q → q ∉ O) : KeyAt H' e := h.stay fun h0 q hq hn => F.off (hk h0 q hq) hn
/-- An entry behind the others. -/
theorem GrowN.pushE (G : GrowN H H1 h t) {e : EnM} (hk : KeyAt H1 e) (hf : e.key ≠ [] → ∀ q, rowB e.A q → q ∉ ownM (h + 1) t) (hs : t.es.length < 1000) {K : Hp → Prop}
    (hq : ∀ H' A' c', GrowN H H' h (.mk t.g A' c' (t.es ++ [e]) t.kA t.kc t.ks) → K H') :
    newF H1 46 (enC e) fun g16 H17 => appendF H17 46 2 32 t.eA t.es.length t.ec (some ⟨g16, 0, none⟩) 1 fun A18 n18 c18 H19 => storeF H19 t.g (0 + 0) [.slice A18 n18 c18] K := by
  intro g7 hg7
  have N := G.node
  have nd := G.sep.1
  obtain ⟨n1, n2, n3⟩ := nd1 nd
  have x8 : Ext H1 (upd g7 (.cells (enC e).toArray 46 (0, 0)) H1) := Ext.new hg7
  have N8 := N.ext x8
  refine N8.er.append (new := enC e) (cellsAt_one upd_at) rfl (enC_one e) (by unfold big; omega) (by omega) fun A' c' H10 R10 F10 _ => ?_
  have tl : H1 t.g ≠ none := N.live t.g (by simp [own1])
  have nA : ∀ q, rowB A' q → rowB t.eA q ∨ H1 q = none := fun q hq => (F10.nw q hq).imp id fun h => x8.none h
  have h1 : ¬ rowB A' t.g := fun h => by
    rcases nA _ h with h | h
    · exact n1 h
    · exact tl h
  have keep : ∀ q, ¬ rowB t.eA q → (upd g7 (.cells (enC e).toArray 46 (0, 0)) H1) q ≠ none → H10 q = (upd g7 (.cells (enC e).toArray 46 (0, 0)) H1) q := fun q hq hn => Classical.byContradiction fun hne => by
    rcases F10.ch q hne with h | h
    · exact hq h
    · exact hn h
  obtain ⟨ty, hc⟩ := N8.cell
  have hc10 : ∃ ty, H10 t.g = some (.cells (nodeC t.eA t.es.length t.ec t.kA t.ks.length t.kc).toArray ty (0, 0)) := ⟨ty, (keep _ n1 (by rw [hc]; simp)).trans hc⟩
  have k10 : RowO H10 t.kA t.ks.length t.kc 1 (t.ks.flatMap ptC) := N8.kr.keep fun q hq hn => keep q (fun h => n3 q h hq) hn
  have el : (t.es ++ [e]).length = t.es.length + 1 := by simp
  refine setE' hc10 k10 el.symm (by rw [el, List.flatMap_append]; simpa using R10) h1 n2 fun H12 N12 off lv => ?_
  obtain ⟨t', ht'⟩ : ∃ t' : MT, t' = .mk t.g A' c' (t.es ++ [e]) t.kA t.kc t.ks := ⟨_, rfl⟩
  rw [← ht'] at N12
  have ndt : (own1 t').Nodup := by
    rw [ht']
    exact nd_mk h1 n2 fun q hq hkq => by
      rcases nA q hq with h | h
      · exact n3 q h hkq
      · exact N.kr.live hkq h
  have Fr : FrM H1 H12 (own1 t) (own1 t') := ⟨fun q hq => by
    by_cases e1 : q = t.g
    · subst e1; exact .inl (by simp [own1])
    · rw [off q e1] at hq
      by_cases e2 : H10 q = (upd g7 (.cells (enC e).toArray 46 (0, 0)) H1) q
      · rw [e2] at hq
        exact .inr (Classical.byContradiction fun hn => hq (ext_at x8 hn))
      · rcases F10.ch q e2 with h | h
        · exact .inl (by simp [own1, blk_row, h])
        · exact .inr (x8.none h), fun q hq => by
    rw [ht'] at hq
    rcases List.mem_cons.1 hq with h | h
    · exact .inl (by rw [h]; simp [own1, MT.g])
    · rcases List.mem_append.1 h with h | h
      · rcases nA q (blk_row.1 h) with h | h
        · exact .inl (by simp [own1, blk_row, h])
        · exact .inr h
      · exact .inl (by simp only [own1, List.mem_cons, List.mem_append]; exact .inr (.inr h)), fun q hq => by
    by_cases e1 : q = t.g
    · subst e1; exact lv
    · rw [off q e1]
      exact F10.al q fun e => hq ((ext_at x8 hq).symm.trans e)⟩
  have hidO : ∀ q ∈ own1 t, H q = none := fun q hq => G.hid q (own_mem.2 (.inl hq))
  have kst : t'.ks = t.ks := by rw [ht']; rfl
  have owt : ∀ q ∈ ownM (h + 1) t', q ∈ ownM (h + 1) t ∨ H1 q = none := fun q hq => by
    rcases own_mem.1 hq with h1 | ⟨u, hu, h1⟩
    · exact (Fr.nw q h1).imp (fun h => own_mem.2 (.inl h)) id
    · exact .inl (own_mem.2 (.inr ⟨u, by rw [kst] at hu; exact hu, h1⟩))
  have hfin : GrowN H H12 h t' := by
    refine ⟨Fr.ext G.ext hidO, N12, fun u hu => ?_, ⟨ndt, fun u hu => ?_, by rw [kst]; exact G.sep.2.2⟩, fun q hq => ?_, fun x hx => ?_⟩
    · rw [kst] at hu
      exact (G.mem u hu).keep fun q hq => Fr.off ((G.sep.2.1 u hu).2 q hq) ((G.mem u hu).live q hq)
    · rw [kst] at hu
      refine ⟨(G.sep.2.1 u hu).1, fun q hq h1 => ?_⟩
      rcases Fr.nw q h1 with h2 | h2
      · exact (G.sep.2.1 u hu).2 q hq h2
      · exact (G.mem u hu).live q hq h2
    · rcases owt q hq with h1 | h1
      · exact G.hid q h1
      · exact G.ext.none h1
    · have hx' : KeyAt H1 x ∧ (x.key ≠ [] → ∀ q, rowB x.A q → q ∉ ownM (h + 1) t) := by
        rcases hx with hx | ⟨u, hu, hx⟩
        · rw [ht'] at hx
          have hx : x ∈ t.es ++ [e] := hx
          rcases List.mem_append.1 hx with hx | hx
          · exact G.key x (.inl hx)
          · rw [List.mem_singleton] at hx; subst hx; exact ⟨hk, hf⟩
        · rw [kst] at hu; exact G.key x (.inr ⟨u, hu, hx⟩)
      refine ⟨hx'.1.off Fr fun h0 q hq h1 => hx'.2 h0 q hq (own_mem.2 (.inl h1)), fun h0 q hq h1 => ?_⟩
      rcases owt q h1 with h2 | h2
      · exact hx'.2 h0 q hq h2
      · exact hx'.1.live h0 hq h2
  rw [ht'] at hfin
  exact hq H12 A' c' hfin
/-- A kid behind the others. -/
theorem GrowN.pushK (G : GrowN H H1 h t) (Mu : MemM H1 h u) (Su : SepM h u) (hu : ∀ q ∈ ownM h u, H q = none ∧ q ∉ ownM (h + 1) t) (ku : ∀ e ∈ flatM h u, KeyAt H1 e ∧ (e.key ≠ [] → ∀ q, rowB e.A q → q ∉ ownM (h + 1) t ∧ q ∉ ownM h u))
    (kt : ∀ e, (e ∈ t.es ∨ ∃ u ∈ t.ks, e ∈ flatM h u) → e.key ≠ [] → ∀ q, rowB e.A q → q ∉ ownM h u) (hs : t.ks.length < 1000) {K : Hp → Prop}
    (hq : ∀ H' A' c', GrowN H H' h (.mk t.g t.eA t.ec t.es A' c' (t.ks ++ [u])) → K H') :
    newF H1 86 [.pointer (some ⟨u.g, 0, none⟩)] fun g16 H17 => appendF H17 86 1 8 t.kA t.ks.length t.kc (some ⟨g16, 0, none⟩) 1 fun A18 n18 c18 H19 => storeF H19 t.g (0 + 1) [.slice A18 n18 c18] K := by
  intro g7 hg7
  have N := G.node
  have nd := G.sep.1
  obtain ⟨n1, n2, n3⟩ := nd1 nd
  have x8 : Ext H1 (upd g7 (.cells (ptC u).toArray 86 (0, 0)) H1) := Ext.new hg7
  have N8 := N.ext x8
  refine N8.kr.append (new := ptC u) (cellsAt_one upd_at) rfl (ptC_one u) (by unfold big; omega) (by omega) fun A' c' H10 R10 F10 _ => ?_
  have tl : H1 t.g ≠ none := N.live t.g (by simp [own1])
  have nA : ∀ q, rowB A' q → rowB t.kA q ∨ H1 q = none := fun q hq => (F10.nw q hq).imp id fun h => x8.none h
  have h1 : ¬ rowB A' t.g := fun h => by
    rcases nA _ h with h | h
    · exact n2 h
    · exact tl h
  have keep : ∀ q, ¬ rowB t.kA q → (upd g7 (.cells (ptC u).toArray 86 (0, 0)) H1) q ≠ none → H10 q = (upd g7 (.cells (ptC u).toArray 86 (0, 0)) H1) q := fun q hq hn => Classical.byContradiction fun hne => by
    rcases F10.ch q hne with h | h
    · exact hq h
    · exact hn h
  obtain ⟨ty, hc⟩ := N8.cell
  have hc10 : ∃ ty, H10 t.g = some (.cells (nodeC t.eA t.es.length t.ec t.kA t.ks.length t.kc).toArray ty (0, 0)) := ⟨ty, (keep _ n2 (by rw [hc]; simp)).trans hc⟩
  have k10 : RowO H10 t.eA t.es.length t.ec 2 (t.es.flatMap enC) := N8.er.keep fun q hq hn => keep q (fun h => n3 q hq h) hn
  have el : (t.ks ++ [u]).length = t.ks.length + 1 := by simp
  refine setK' hc10 k10 el.symm (by rw [el, List.flatMap_append]; simpa using R10) h1 n1 fun H12 N12 off lv => ?_
  obtain ⟨t', ht'⟩ : ∃ t' : MT, t' = .mk t.g t.eA t.ec t.es A' c' (t.ks ++ [u]) := ⟨_, rfl⟩
  rw [← ht'] at N12
  have ndt : (own1 t').Nodup := by
    rw [ht']
    exact nd_mk n1 h1 fun q hq hkq => by
      rcases nA q hkq with h | h
      · exact n3 q hq h
      · exact N.er.live hq h
  have Fr : FrM H1 H12 (own1 t) (own1 t') := ⟨fun q hq => by
    by_cases e1 : q = t.g
    · subst e1; exact .inl (by simp [own1])
    · rw [off q e1] at hq
      by_cases e2 : H10 q = (upd g7 (.cells (ptC u).toArray 86 (0, 0)) H1) q
      · rw [e2] at hq
        exact .inr (Classical.byContradiction fun hn => hq (ext_at x8 hn))
      · rcases F10.ch q e2 with h | h
        · exact .inl (by simp [own1, blk_row, h])
        · exact .inr (x8.none h), fun q hq => by
    rw [ht'] at hq
    rcases List.mem_cons.1 hq with h | h
    · exact .inl (by rw [h]; simp [own1, MT.g])
    · rcases List.mem_append.1 h with h | h
      · exact .inl (by simp only [own1, List.mem_cons, List.mem_append]; exact .inr (.inl h))
      · rcases nA q (blk_row.1 h) with h | h
        · exact .inl (by simp [own1, blk_row, h])
        · exact .inr h, fun q hq => by
    by_cases e1 : q = t.g
    · subst e1; exact lv
    · rw [off q e1]
      exact F10.al q fun e => hq ((ext_at x8 hq).symm.trans e)⟩
  have hidO : ∀ q ∈ own1 t, H q = none := fun q hq => G.hid q (own_mem.2 (.inl hq))
  have kst : t'.ks = t.ks ++ [u] := by rw [ht']; rfl
  have owt : ∀ q ∈ ownM (h + 1) t', q ∈ ownM (h + 1) t ∨ q ∈ ownM h u ∨ H1 q = none := fun q hq => by
    rcases own_mem.1 hq with h1 | ⟨v, hv, h1⟩
    · rcases Fr.nw q h1 with h | h
      · exact .inl (own_mem.2 (.inl h))
      · exact .inr (.inr h)
    · rw [kst] at hv
      rcases List.mem_append.1 hv with hv | hv
      · exact .inl (own_mem.2 (.inr ⟨v, hv, h1⟩))
      · rw [List.mem_singleton] at hv; subst hv; exact .inr (.inl h1)
  have hfin : GrowN H H12 h t' := by
    have memv : ∀ v ∈ t.ks ++ [u], MemM H1 h v ∧ SepM h v ∧ ∀ q ∈ ownM h v, q ∉ own1 t := fun v hv => by
      rcases List.mem_append.1 hv with hv | hv
      · exact ⟨G.mem v hv, (G.sep.2.1 v hv).1, (G.sep.2.1 v hv).2⟩
      · rw [List.mem_singleton] at hv; subst hv
        exact ⟨Mu, Su, fun q hq h1 => (hu q hq).2 (own_mem.2 (.inl h1))⟩
    refine ⟨Fr.ext G.ext hidO, N12, fun v hv => ?_, ⟨ndt, fun v hv => ?_, ?_⟩, fun q hq => ?_, fun x hx => ?_⟩
    · rw [kst] at hv
      obtain ⟨m1, m2, m3⟩ := memv v hv
      exact m1.keep fun q hq => Fr.off (m3 q hq) (m1.live q hq)
    · rw [kst] at hv
      obtain ⟨m1, m2, m3⟩ := memv v hv
      refine ⟨m2, fun q hq h1 => ?_⟩
      rcases Fr.nw q h1 with h2 | h2
      · exact m3 q hq h2
      · exact m1.live q hq h2
    · rw [kst, List.pairwise_append]
      refine ⟨G.sep.2.2, by simp, fun v hv w hw z hz h1 => ?_⟩
      rw [List.mem_singleton] at hw; subst hw
      exact (hu z h1).2 (own_mem.2 (.inr ⟨v, hv, hz⟩))
    · rcases owt q hq with h1 | h1 | h1
      · exact G.hid q h1
      · exact (hu q h1).1
      · exact G.ext.none h1
    · have hx' : KeyAt H1 x ∧ (x.key ≠ [] → ∀ q, rowB x.A q → q ∉ ownM (h + 1) t ∧ q ∉ ownM h u) := by
        rcases hx with hx | ⟨v, hv, hx⟩
        · rw [ht'] at hx
          have hx : x ∈ t.es := hx
          exact ⟨(G.key x (.inl hx)).1, fun h0 q hq => ⟨(G.key x (.inl hx)).2 h0 q hq, kt x (.inl hx) h0 q hq⟩⟩
        · rw [kst] at hv
          rcases List.mem_append.1 hv with hv | hv
          · exact ⟨(G.key x (.inr ⟨v, hv, hx⟩)).1, fun h0 q hq => ⟨(G.key x (.inr ⟨v, hv, hx⟩)).2 h0 q hq, kt x (.inr ⟨v, hv, hx⟩) h0 q hq⟩⟩
          · rw [List.mem_singleton] at hv; subst hv; exact ku x hx
      refine ⟨hx'.1.off Fr fun h0 q hq h1 => (hx'.2 h0 q hq).1 (own_mem.2 (.inl h1)), fun h0 q hq h1 => ?_⟩
      rcases owt q h1 with h2 | h2 | h2
      · exact (hx'.2 h0 q hq).1 h2
      · exact (hx'.2 h0 q hq).2 h2
      · exact hx'.1.live h0 hq h2
  rw [ht'] at hfin
  exact hq H12 A' c' hfin
end
end Go.Proofs.YtmelbipidffmpaaGreatDoor.Hw
