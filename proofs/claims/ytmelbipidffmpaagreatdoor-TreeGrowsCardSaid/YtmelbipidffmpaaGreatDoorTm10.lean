/- Dl HwFh Dn Do Dp Fb Dq HwFi Dr Fc Eb (joined by merge.py) -/
import Derived.Test.YtmelbipidffmpaaGreatDoorTm9
import Derived.Test.YtmelbipidffmpaaGreatDoorTm3
import Derived.Test.YtmelbipidffmpaaGreatDoorTm6
import Derived.Test.YtmelbipidffmpaaGreatDoorTie
import Derived.Test.YtmelbipidffmpaaGreatDoorCards
/- The fixed calls: awake is true. -/
set_option linter.unusedVariables false
set_option linter.unusedSimpArgs false
set_option linter.unusedSectionVars false
set_option maxRecDepth 20000
namespace Go.Proofs.YtmelbipidffmpaaGreatDoor.Hw
open Go Go.Proofs
theorem c10 : Awake := fun H Q N hq => by
  refine f10.ok ?_
  unfold f10
  refine c34 fun g1 hg1 => ⟨_, _, _, _, rfl, c34 fun g5 hg5 => ⟨_, _, _, _, rfl, c34 fun g9 hg9 => ⟨_, _, _, _, rfl, fun g13 hg13 => ?_⟩⟩⟩
  have x2 : Ext H (upd g1 (.cells (vlC (nV 2)).toArray 64 (0, 0)) H) := Ext.new hg1
  have x6 := Ext.new (o := .cells (vlC (nV 1)).toArray 64 (0, 0)) hg5
  have x10 := Ext.new (o := .cells (vlC (nV 2)).toArray 64 (0, 0)) hg9
  have x14 := Ext.new (o := .cells [Value.slice (some ⟨g1, 0, none⟩) 1 1, .int .i64 4, .slice (some ⟨g5, 0, none⟩) 1 1, .int .i64 5, .slice (some ⟨g9, 0, none⟩) 1 1, .int .i64 3].toArray 46 (0, 0)) hg13
  have k1 : ∀ H', Ext _ H' → KeyAt H' (fE g1 2 4) := fun H' hx => key_at ((x6.trans (x10.trans x14)).trans hx)
  have k2 : ∀ H', Ext _ H' → KeyAt H' (fE g5 1 5) := fun H' hx => key_at ((x10.trans x14).trans hx)
  have k3 : ∀ H', Ext _ H' → KeyAt H' (fE g9 2 3) := fun H' hx => key_at (x14.trans hx)
  have xx := x2.trans (x6.trans (x10.trans x14))
  have s14 : SlAt enC (upd g13 (.cells [Value.slice (some ⟨g1, 0, none⟩) 1 1, .int .i64 4, .slice (some ⟨g5, 0, none⟩) 1 1, .int .i64 5, .slice (some ⟨g9, 0, none⟩) 1 1, .int .i64 3].toArray 46 (0, 0)) (upd g9 (.cells (vlC (nV 2)).toArray 64 (0, 0)) (upd g5 (.cells (vlC (nV 1)).toArray 64 (0, 0)) (upd g1 (.cells (vlC (nV 2)).toArray 64 (0, 0)) H)))) (some ⟨g13, 0, none⟩) 3 [fE g1 2 4, fE g5 1 5, fE g9 2 3] :=
    fresh_sl (l := [fE g1 2 4, fE g5 1 5, fE g9 2 3]) (f := enC) rfl (by simp [huge])
  obtain ⟨H14, hH14⟩ : ∃ H14, H14 = upd g13 (.cells [Value.slice (some ⟨g1, 0, none⟩) 1 1, .int .i64 4, .slice (some ⟨g5, 0, none⟩) 1 1, .int .i64 5, .slice (some ⟨g9, 0, none⟩) 1 1, .int .i64 3].toArray 46 (0, 0)) (upd g9 (.cells (vlC (nV 2)).toArray 64 (0, 0)) (upd g5 (.cells (vlC (nV 1)).toArray 64 (0, 0)) (upd g1 (.cells (vlC (nV 2)).toArray 64 (0, 0)) H))) := ⟨_, rfl⟩
  rw [← hH14] at s14 k1 k2 k3 xx
  have N14 := N.ext xx
  have say : ∀ g n i, sayE (fE g n i) = ([nV n], i) := fun _ _ _ => rfl
  have o12 : ordE (fE g5 1 5) (fE g9 2 3) < 0 := by rw [ord_fix (say _ _ _) (say _ _ _)]; decide
  have o13 : ordE (fE g5 1 5) (fE g1 2 4) < 0 := by rw [ord_fix (say _ _ _) (say _ _ _)]; decide
  have o23 : ordE (fE g9 2 3) (fE g1 2 4) < 0 := by rw [ord_fix (say _ _ _) (say _ _ _)]; decide
  have hS0 : SrtE [fE g5 1 5, fE g9 2 3, fE g1 2 4] := by
    unfold SrtE
    simp [o12, o13, o23]
  have hP0 : [fE g5 1 5, fE g9 2 3, fE g1 2 4].Perm [fE g1 2 4, fE g5 1 5, fE g9 2 3] := (List.perm_append_comm (l₁ := [fE g5 1 5, fE g9 2 3]) (l₂ := [fE g1 2 4]))
  have hN0 : NoTwo [fE g1 2 4, fE g5 1 5, fE g9 2 3] := (noTwo_perm hP0).1 (srt_noTwo hS0)
  have hok : (1 ≤ (1 : Int) ∧ (1 : Int) ≤ 20) ∧ [fE g1 2 4, fE g5 1 5, fE g9 2 3].all (entB 1) = true := by
    refine ⟨by omega, ?_⟩
    simp only [List.all_cons, List.all_nil, Bool.and_true, ent_fE (g := g1) (n := 2) (id := 4) (by decide) (by decide), ent_fE (g := g5) (n := 1) (id := 5) (by decide) (by decide), ent_fE (g := g9) (n := 2) (id := 3) (by decide) (by decide)]
  subst hH14
  refine c31 (l := [fE g1 2 4, fE g5 1 5, fE g9 2 3]) N14 s14 (fun e he => ?_) (by omega) (fun h => absurd hok h) (fun _ h => absurd hN0 h) (fun _ _ h => by simp at h) fun _ _ _ H16 A17 c17 bl l L dep x16 hperm hsrt hsay O => ⟨_, _, _, _, _, _, rfl, ?_⟩
  · simp only [List.mem_cons, List.not_mem_nil, or_false] at he
    rcases he with rfl | rfl | rfl
    · exact k1 _ (Ext.refl _)
    · exact k2 _ (Ext.refl _)
    · exact k3 _ (Ext.refl _)
  obtain rfl := srt_unique hsrt hS0 (hperm.trans hP0.symm)
  have hl : AreN l [(1, 5), (2, 3), (2, 4)] := hsay
  have hlen : l.length = 3 := hl.len
  have N16 := N14.ext x16
  clear k1 k2 k3 s14 x2 x6 x10 x14 hS0 hP0 hN0 hok o12 o13 o23 hsay hsrt hperm
  refine c35 ⟨_, _, _, rfl, fun g26 hg26 => ?_⟩
  have x27 := Ext.new (o := .cells (vlC (nV 2)).toArray 64 (0, 0)) hg26
  refine w20 (ids := [3, 4]) (N16.ext x27) (O.ext x27).tr O.few (kc := 1) (key_sl (n := 2)) ((find_fix (O.ext x27) hl (by decide)).trans rfl) (by simp [big]) fun A30 c30 H29 x29 s30 => ⟨_, _, _, _, rfl, ?_⟩
  have y29 := x27.trans x29
  have O29 := O.ext y29
  have N29 := N16.ext y29
  refine jn_intro (fun J => ∀ A c H', Ext H29 H' → SlAt inC H' A 1 [5] → J A 1 c 0 H') (fun A71 c73 H75 x75 s71 => ?_) fun J76 hJ76 => ?_
  rotate_left
  · refine c35 ⟨_, _, _, rfl, ⟨fun g37 hg37 => c35 ⟨_, _, _, rfl, fun g44 hg44 => ?_⟩, c35 ⟨_, _, _, rfl, ⟨fun g55 hg55 g57 hg57 => ?_, fun g63 hg63 g65 hg65 => ?_⟩⟩⟩⟩
    · have y1 := Ext.new (o := .cells (vlC (nV 1)).toArray 64 (0, 0)) hg37
      have y2 := Ext.new (o := .cells (vlC (nV 1)).toArray 64 (0, 0)) hg44
      have yy := y1.trans y2
      refine w23 (ids := [5]) (N29.ext yy) (O29.ext yy).tr O.few (lc := 1) (kc := 1) ((key_sl (n := 1)).ext y2) (key_sl (n := 1)) ((bet_fix (O29.ext yy) hl (by decide) (by decide)).trans rfl) (by simp [big]) fun A48 c48 H47 x47 s48 => ⟨_, _, _, _, rfl, hJ76 _ _ _ (yy.trans x47) s48⟩
    · have y1 := Ext.new (o := .cells (vlC (nV 1)).toArray 64 (0, 0)) hg55
      have y2 := Ext.new (o := .cells (vlC (nV 1)).toArray 64 (0, 0)) hg57
      have yy := y1.trans y2
      refine w23 (ids := [5]) (N29.ext yy) (O29.ext yy).tr O.few (lc := 1) (kc := 1) ((key_sl (n := 1)).ext y2) (key_sl (n := 1)) ((bet_fix (O29.ext yy) hl (by decide) (by decide)).trans rfl) (by simp [big]) fun A48 c48 H47 x47 s48 => ⟨_, _, _, _, rfl, hJ76 _ _ _ (yy.trans x47) s48⟩
    · have y1 := Ext.new (o := .cells (vlC (nV 1)).toArray 64 (0, 0)) hg63
      have y2 := Ext.new (o := .cells (vlC (nV 1)).toArray 64 (0, 0)) hg65
      have yy := y1.trans y2
      refine w23 (ids := [5]) (N29.ext yy) (O29.ext yy).tr O.few (lc := 1) (kc := 1) (key_sl (n := 1)) ((key_sl (n := 1)).ext y2) ((bet_fix (O29.ext yy) hl (by decide) (by decide)).trans rfl) (by simp [big]) fun A48 c48 H47 x47 s48 => ⟨_, _, _, _, rfl, hJ76 _ _ _ (yy.trans x47) s48⟩
  have O75 := O29.ext x75
  have N75 := N29.ext x75
  have s30 := s30.ext x75
  refine w23 (ids := [4, 3, 5]) N75 O75.tr O.few nil_sl nil_sl ((all_fix O75 hl).trans rfl) (by simp [big]) fun A79 c79 H78 x78 s79 => ⟨_, _, _, _, rfl, ?_⟩
  have O78 := O75.ext x78
  have N78 := N75.ext x78
  have s30 := s30.ext x78
  have s71 := s71.ext x78
  have zx : Ext H H78 := xx.trans (x16.trans (y29.trans (x75.trans x78)))
  refine jn_intro (fun J => ∀ H' A' c' bl' l' dep', Ext H78 H' → OutT H' A' bl' 1 l' dep' → AreN l' [(0, 9), (1, 5), (2, 3), (2, 4)] → J 0 A' bl'.length c' 0 1 H') (fun H113 A108 c110 blu lu depu x113 Ou hlu => ?_) fun J114 hJ114 => ?_
  rotate_left
  · have ins : ∀ H82 g, Ext H78 H82 → KeyAt H82 (fE g 0 9) → HCalls Tryz.prog 25 [.agg #[.slice A17 bl.length c17, .int .i64 0, .int .i64 1], enA (fE g 0 9)] H82 fun v85 H86 => ∃ (A87 : Option Addr) (n87 c87 : Nat), ∃ x88 : Int, ∃ x89 : Int, ∃ x90 : Int, v85 = .tuple #[.agg #[.slice A87 n87 c87, .int .i64 x88, .int .i64 x89], .int .i64 x90] ∧ J114 x90 A87 n87 c87 x88 x89 H86 := fun H82 g x82 hK =>
      wIns0 (N78.ext x82) (O78.ext x82) hl (by decide) (by decide) hK (by decide) (by simp) fun H' A' c' bl' l' dep' hx O' P => ⟨_, _, _, _, _, _, rfl, hJ114 H' A' c' bl' l' dep' (x82.trans hx) O' (put_front hl rfl P (by decide))⟩
    exact ⟨c34 fun g hg => ⟨_, _, _, _, rfl, ins _ g (Ext.new hg) (key_at (Ext.refl _)), ins _ g (Ext.new hg) (key_at (Ext.refl _))⟩, c34 fun g hg => ⟨_, _, _, _, rfl, ins _ g (Ext.new hg) (key_at (Ext.refl _))⟩⟩
  have N113 := N78.ext x113
  have hlu4 : lu.length = 4 := hlu.len
  refine w11 N113 Ou fun A117 c117 H116 x116 => ⟨_, _, _, _, rfl, ?_⟩
  rw [hlu4]
  have Ou := Ou.ext x116
  have N116 := N113.ext x116
  refine jn_intro (fun J => ∀ H' A' c' bl' l' dep', Ext H116 H' → OutT H' A' bl' 1 l' dep' → l'.length ≤ 6 → J 0 A' bl'.length c' 0 1 H') (fun H151 A146 c148 blv lv depv x151 Ov hlv => ?_) fun J152 hJ152 => ?_
  rotate_left
  · have del : ∀ H120 g, Ext H116 H120 → KeyAt H120 (fE g 2 4) → HCalls Tryz.prog 28 [.agg #[.slice A108 blu.length c110, .int .i64 0, .int .i64 1], enA (fE g 2 4)] H120 fun v123 H124 => ∃ (A125 : Option Addr) (n125 c125 : Nat), ∃ x126 : Int, ∃ x127 : Int, ∃ x128 : Int, v123 = .tuple #[.agg #[.slice A125 n125 c125, .int .i64 x126, .int .i64 x127], .int .i64 x128] ∧ J152 x128 A125 n125 c125 x126 x127 H124 := fun H120 g x120 hK =>
      wDel0 (N116.ext x120) (Ou.ext x120) hlu (by decide) (by decide) hK (by decide) (by simp) fun H' A' c' bl' l' dep' hx O' hle => ⟨_, _, _, _, _, _, rfl, hJ152 H' A' c' bl' l' dep' (x120.trans hx) O' (by omega)⟩
    exact ⟨c34 fun g hg => ⟨_, _, _, _, rfl, del _ g (Ext.new hg) (key_at (Ext.refl _)), del _ g (Ext.new hg) (key_at (Ext.refl _))⟩, c34 fun g hg => ⟨_, _, _, _, rfl, del _ g (Ext.new hg) (key_at (Ext.refl _))⟩⟩
  have N151 := N116.ext x151
  refine c35 ⟨_, _, _, rfl, fun g158 hg158 => ?_⟩
  have x159 := Ext.new (o := .cells (vlC (nV 7)).toArray 64 (0, 0)) hg158
  refine w18 (N151.ext x159) (Ov.ext x159) hlv (n := 7) (kc := 1) (by decide) key_sl fun H161 x161 => ⟨_, _, rfl, ?_⟩
  have y161 := x159.trans x161
  refine w16 (N151.ext y161) (Ov.ext y161) hlv fun H165 x165 => ⟨_, _, rfl, ?_⟩
  have z165 : Ext H78 H165 := x113.trans (x116.trans (x151.trans (y161.trans x165)))
  have O165 := O78.ext z165
  have N165 := N78.ext z165
  refine jn_intro (fun J => ∀ H', Ext H165 H' → J 14 H') (fun H195 x195 => ?_) fun J196 hJ196 => ?_
  rotate_left
  · have ins : ∀ H82 g, Ext H165 H82 → KeyAt H82 (fE g 1 5) → HCalls Tryz.prog 25 [.agg #[.slice A17 bl.length c17, .int .i64 0, .int .i64 1], enA (fE g 1 5)] H82 fun v85 H86 => ∃ (A87 : Option Addr) (n87 c87 : Nat), ∃ x88 : Int, ∃ x89 : Int, ∃ x90 : Int, v85 = .tuple #[.agg #[.slice A87 n87 c87, .int .i64 x88, .int .i64 x89], .int .i64 x90] ∧ J196 x90 H86 := fun H82 g x82 hK =>
      wIns14 (N165.ext x82) (O165.ext x82) hl (by decide) (by decide) hK (by decide) fun H' hx => ⟨_, _, _, _, _, _, rfl, hJ196 H' (x82.trans hx)⟩
    exact ⟨c34 fun g hg => ⟨_, _, _, _, rfl, ins _ g (Ext.new hg) (key_at (Ext.refl _)), ins _ g (Ext.new hg) (key_at (Ext.refl _))⟩, c34 fun g hg => ⟨_, _, _, _, rfl, ins _ g (Ext.new hg) (key_at (Ext.refl _))⟩⟩
  have O195 := O165.ext x195
  have N195 := N165.ext x195
  refine jn_intro (fun J => ∀ H', Ext H195 H' → J 4 H') (fun H224 x224 => ?_) fun J225 hJ225 => ?_
  rotate_left
  · have del : ∀ H120 g, Ext H195 H120 → KeyAt H120 (fE g 1 6) → HCalls Tryz.prog 28 [.agg #[.slice A17 bl.length c17, .int .i64 0, .int .i64 1], enA (fE g 1 6)] H120 fun v123 H124 => ∃ (A125 : Option Addr) (n125 c125 : Nat), ∃ x126 : Int, ∃ x127 : Int, ∃ x128 : Int, v123 = .tuple #[.agg #[.slice A125 n125 c125, .int .i64 x126, .int .i64 x127], .int .i64 x128] ∧ J225 x128 H124 := fun H120 g x120 hK =>
      wDel4 (N195.ext x120) (O195.ext x120) hl (by decide) (by decide) hK (by decide) (by simp) fun H' hx => ⟨_, _, _, _, _, _, rfl, hJ225 H' (x120.trans hx)⟩
    exact ⟨c34 fun g hg => ⟨_, _, _, _, rfl, del _ g (Ext.new hg) (key_at (Ext.refl _)), del _ g (Ext.new hg) (key_at (Ext.refl _))⟩, c34 fun g hg => ⟨_, _, _, _, rfl, del _ g (Ext.new hg) (key_at (Ext.refl _))⟩⟩
  have z224 := z165.trans (x195.trans x224)
  have N224 := N78.ext z224
  refine c33 (cols := 2) (fun h => absurd (by omega) h) fun _ H227 A228 c228 blx x227 Ox => ⟨_, _, _, _, _, _, rfl, ?_⟩
  refine c33 (cols := 0) (fun _ => ⟨_, _, _, _, _, _, rfl, ?_⟩) fun h => by omega
  have z227 := z224.trans x227
  have N227 := N78.ext z227
  refine jn_intro (fun J => ∀ H', Ext H227 H' → J true H') (fun H' hx => hq H' (zx.trans (z227.trans hx))) fun J258 hJ => ?_
  refine cndT rfl fun g238 hg238 => ?_
  have x239 := Ext.new (o := .cells [Value.int .i64 3, .int .i64 4].toArray 3 (0, 0)) hg238
  refine c22 (x := [3, 4]) (ca := c30) (cb := 2) (s30.ext (z227.trans x239)) (fresh_sl (l := [3, 4]) (f := inC) rfl (by simp [huge])) ⟨_, rfl, cndT rfl (cndT rfl fun g243 hg243 => ?_)⟩
  have x244 := Ext.new (o := .cells [Value.int .i64 5].toArray 3 (0, 0)) hg243
  refine c22 (x := [5]) (cb := 1) (s71.ext (z227.trans (x239.trans x244))) (fresh_sl (l := [5]) (f := inC) rfl (by simp [huge])) ⟨_, rfl, cndT rfl (cndT rfl fun g248 hg248 => ?_)⟩
  have x249 := Ext.new (o := .cells [Value.int .i64 4, .int .i64 3, .int .i64 5].toArray 3 (0, 0)) hg248
  refine c22 (x := [4, 3, 5]) (cb := 3) (s79.ext (z227.trans (x239.trans (x244.trans x249)))) (fresh_sl (l := [4, 3, 5]) (f := inC) rfl (by simp [huge])) ⟨_, rfl, cndT rfl ?_⟩
  have x251 := x239.trans (x244.trans x249)
  refine cndT rfl (cndT rfl (cndT rfl (cndT rfl (cndT rfl (cndT rfl (cndT rfl (cndT rfl (cndT rfl (cndT rfl (cndT rfl ?_))))))))))
  exact w13 (N227.ext x251) (Ox.ext2 x251) fun H254 x254 => ⟨_, rfl, cndT rfl (cndT rfl (hJ H254 (x251.trans x254)))⟩
end Go.Proofs.YtmelbipidffmpaaGreatDoor.Hw

/- What functions of the program come to, by the evaluator: printed by a program of this session (gen.py) and checked here. -/
set_option linter.unusedVariables false
set_option maxRecDepth 100000
namespace Go.Proofs.YtmelbipidffmpaaGreatDoor.Hw
open Go Go.Proofs

/-- justiciar justiciarlaw17.TreeChanges -/
def f5 (pt_0_A : Option Addr) (pt_0_n pt_0_c : Nat) (pt_1 : Int) (pt_2 : Int) (pe_0_A : Option Addr) (pe_0_n pe_0_c : Nat) (pe_1 : Int) (H : Hp) (Q : Value → Hp → Prop) : Prop :=
  jn (fun (j4 : Bool) (H5 : Hp) => cnd j4 (HCalls Tryz.prog 10 [] H5 fun v7 H8 => ∃ x9 : Bool, v7 = .bool x9 ∧ Q (.bool x9) H8) (HCalls Tryz.prog 25 [.agg #[.slice pt_0_A pt_0_n pt_0_c, .int .i64 pt_1, .int .i64 pt_2], .agg
    #[.slice pe_0_A pe_0_n pe_0_c, .int .i64 pe_1]] H5 fun v10 H11 => ∃ (A12 : Option Addr) (n12 c12 : Nat), ∃ x13 : Int, ∃ x14 : Int, ∃ x15 : Int, v10 = .tuple #[.agg #[.slice A12 n12 c12, .int .i64 x13, .int .i64 x14],
    .int .i64 x15] ∧ HCalls Tryz.prog 26 [.agg #[.slice pt_0_A pt_0_n pt_0_c, .int .i64 pt_1, .int .i64 pt_2], .agg #[.slice pe_0_A pe_0_n pe_0_c, .int .i64 pe_1]] H11 fun v16 H17 => ∃ (A18 : Option Addr) (n18 c18 : Nat),
    ∃ x19 : Int, v16 = .tuple #[.slice A18 n18 c18, .int .i64 x19] ∧ jn (fun (j23 : Bool) (H24 : Hp) => cnd j23 (Q (.bool false) H24) (HCalls Tryz.prog 28 [.agg #[.slice pt_0_A pt_0_n pt_0_c, .int .i64 pt_1, .int .i64
    pt_2], .agg #[.slice pe_0_A pe_0_n pe_0_c, .int .i64 pe_1]] H24 fun v26 H27 => ∃ (A28 : Option Addr) (n28 c28 : Nat), ∃ x29 : Int, ∃ x30 : Int, ∃ x31 : Int, v26 = .tuple #[.agg #[.slice A28 n28 c28, .int .i64 x29,
    .int .i64 x30], .int .i64 x31] ∧ HCalls Tryz.prog 29 [.agg #[.slice pt_0_A pt_0_n pt_0_c, .int .i64 pt_1, .int .i64 pt_2], .agg #[.slice pe_0_A pe_0_n pe_0_c, .int .i64 pe_1]] H27 fun v32 H33 => ∃ (A34 : Option Addr)
    (n34 c34 : Nat), ∃ x35 : Int, v32 = .tuple #[.slice A34 n34 c34, .int .i64 x35] ∧ jn (fun (j42 : Bool) (H43 : Hp) => Q (.bool j42) H43) fun J44 => cnd ((x31 : Int) == x35) (HCalls Tryz.prog 27 [.agg #[.slice A28 n28
    c28, .int .i64 x29, .int .i64 x30], .slice A34 n34 c34, .int .i64 pt_2, .int .i64 x31] H33 fun v36 H37 => ∃ x38 : Bool, v36 = .bool x38 ∧ cnd x38 (HCalls Tryz.prog 10 [] H37 fun v39 H40 => ∃ x41 : Bool, v39 = .bool
    x41 ∧ J44 x41 H40) (J44 false H37)) (J44 false H33))) fun J25 => cnd ((x15 : Int) != x19) (J25 true H17) (HCalls Tryz.prog 27 [.agg #[.slice A12 n12 c12, .int .i64 x13, .int .i64 x14], .slice A18 n18 c18, .int .i64
    pt_2, .int .i64 x15] H17 fun v20 H21 => ∃ x22 : Bool, v20 = .bool x22 ∧ J25 (!x22) H21))) fun J6 => HCalls Tryz.prog 9 [.agg #[.slice pt_0_A pt_0_n pt_0_c, .int .i64 pt_1, .int .i64 pt_2]] H fun v1 H2 => ∃ x3 : Bool,
    v1 = .bool x3 ∧ cnd (!x3) (J6 true H2) (J6 (decide ((((pe_0_n : Nat) : Int) : Int) > 30)) H2)
/-- justiciar justiciarlaw17.TreeMakes -/
def f6 (pcols : Int) (pl_A : Option Addr) (pl_n pl_c : Nat) (H : Hp) (Q : Value → Hp → Prop) : Prop :=
  HCalls Tryz.prog 30 [.slice pl_A pl_n pl_c] H fun v1 H2 => ∃ x3 : Bool, v1 = .bool x3 ∧ cnd (!x3) (HCalls Tryz.prog 10 [] H2 fun v4 H5 => ∃ x6 : Bool, v4 = .bool x6 ∧ Q (.bool x6) H5) (HCalls Tryz.prog 31 [.int .i64
    pcols, .slice pl_A pl_n pl_c] H2 fun v7 H8 => ∃ (A9 : Option Addr) (n9 c9 : Nat), ∃ x10 : Int, ∃ x11 : Int, ∃ x12 : Int, v7 = .tuple #[.agg #[.slice A9 n9 c9, .int .i64 x10, .int .i64 x11], .int .i64 x12] ∧ HCalls
    Tryz.prog 32 [.int .i64 pcols, .slice pl_A pl_n pl_c] H8 fun v13 H14 => ∃ (A15 : Option Addr) (n15 c15 : Nat), ∃ x16 : Int, v13 = .tuple #[.slice A15 n15 c15, .int .i64 x16] ∧ jn (fun (j20 : Bool) (H21 : Hp) => cnd
    j20 (Q (.bool false) H21) (LoopF (σ := ((Option Addr × Nat × Nat) × (Int × Unit)) × Unit) (((none, 0, 0), (0, ())), ()) H21 fun s23 H24 next25 => cnd (decide ((s23.1.2.1 : Int) < ((pl_n : Nat) : Int))) (0 ≤
    (IntKind.i64.wrap ((IntKind.i64.wrap (((pl_n : Nat) : Int) - 1)) - s23.1.2.1) : Int) ∧ (IntKind.i64.wrap ((IntKind.i64.wrap (((pl_n : Nat) : Int) - 1)) - s23.1.2.1) : Int) < ((pl_n : Nat) : Int) ∧ onPtr pl_A fun b26
    o26 => ∃ (A27 : Option Addr) (n27 c27 : Nat), cl H24 b26 (o26 + (IntKind.i64.wrap ((IntKind.i64.wrap (((pl_n : Nat) : Int) - 1)) - s23.1.2.1) : Int).toNat * 2) = some (.slice A27 n27 c27) ∧ ∃ x28 : Int, cl H24 b26
    ((o26 + (IntKind.i64.wrap ((IntKind.i64.wrap (((pl_n : Nat) : Int) - 1)) - s23.1.2.1) : Int).toNat * 2) + 1) = some (.int .i64 x28) ∧ newF H24 46 [.slice A27 n27 c27, .int .i64 x28] fun g29 H30 => appendF H30 46 2 32
    s23.1.1.1 s23.1.1.2.1 s23.1.1.2.2 (some ⟨g29, 0, none⟩) 1 fun A31 n31 c31 H32 => KeepX [some (.v (.int .i64 pcols)), some (.v (.slice pl_A pl_n pl_c)), some (.v (.int .i64 x12)), some (.v (.slice A15 n15 c15)), some
    (.v (.int .i64 ((pl_n : Nat) : Int)))] [] ∧ next25 (((A31, n31, c31), (IntKind.i64.wrap (s23.1.2.1 + 1), ())), ()) H32) (HCalls Tryz.prog 31 [.int .i64 pcols, .slice s23.1.1.1 s23.1.1.2.1 s23.1.1.2.2] H24 fun v33 H34
    => ∃ (A35 : Option Addr) (n35 c35 : Nat), ∃ x36 : Int, ∃ x37 : Int, ∃ x38 : Int, v33 = .tuple #[.agg #[.slice A35 n35 c35, .int .i64 x36, .int .i64 x37], .int .i64 x38] ∧ jn (fun (j42 : Bool) (H43 : Hp) => cnd j42 (Q
    (.bool false) H43) (HCalls Tryz.prog 33 [.int .i64 pcols] H43 fun v45 H46 => ∃ (A47 : Option Addr) (n47 c47 : Nat), ∃ x48 : Int, ∃ x49 : Int, ∃ x50 : Int, v45 = .tuple #[.agg #[.slice A47 n47 c47, .int .i64 x48, .int
    .i64 x49], .int .i64 x50] ∧ HCalls Tryz.prog 32 [.int .i64 pcols, .slice none 0 0] H46 fun v51 H52 => ∃ (A53 : Option Addr) (n53 c53 : Nat), ∃ x54 : Int, v51 = .tuple #[.slice A53 n53 c53, .int .i64 x54] ∧ jn (fun
    (j61 : Bool) (H62 : Hp) => Q (.bool j61) H62) fun J63 => cnd ((x50 : Int) == x54) (HCalls Tryz.prog 27 [.agg #[.slice A47 n47 c47, .int .i64 x48, .int .i64 x49], .slice none 0 0, .int .i64 pcols, .int .i64 x50] H52
    fun v55 H56 => ∃ x57 : Bool, v55 = .bool x57 ∧ cnd x57 (HCalls Tryz.prog 10 [] H56 fun v58 H59 => ∃ x60 : Bool, v58 = .bool x60 ∧ J63 x60 H59) (J63 false H56)) (J63 false H52))) fun J44 => cnd ((x12 : Int) != x38)
    (J44 true H34) (HCalls Tryz.prog 27 [.agg #[.slice A35 n35 c35, .int .i64 x36, .int .i64 x37], .slice A15 n15 c15, .int .i64 pcols, .int .i64 x12] H34 fun v39 H40 => ∃ x41 : Bool, v39 = .bool x41 ∧ J44 (!x41) H40))))
    fun J22 => cnd ((x12 : Int) != x16) (J22 true H14) (HCalls Tryz.prog 27 [.agg #[.slice A9 n9 c9, .int .i64 x10, .int .i64 x11], .slice A15 n15 c15, .int .i64 pcols, .int .i64 x12] H14 fun v17 H18 => ∃ x19 : Bool, v17
    = .bool x19 ∧ J22 (!x19) H18))
noncomputable def fcx6 : Cx := cx 100 [(5, true), (11, true), (13, true)] [(9, ⟨[0, 1, 6, 7, 45], [], [(9, .slice), (46, .int .i64)], []⟩)] [] []
theorem f6.eq (pcols : Int) (pl_A : Option Addr) (pl_n pl_c : Nat) (H : Hp) (Q : Value → Hp → Prop) : f6 pcols pl_A pl_n pl_c H Q = wFun fcx6 Tryz.f6 [.int .i64 pcols, .slice pl_A pl_n pl_c] H Q := by kernel_rfl
theorem f6.ok (pcols : Int) (pl_A : Option Addr) (pl_n pl_c : Nat) {H : Hp} {Q : Value → Hp → Prop} (h : f6 pcols pl_A pl_n pl_c H Q) : HCalls Tryz.prog 6 [.int .i64 pcols, .slice pl_A pl_n pl_c] H Q := hcalls_of (cxOk _ _ _ _ _) Tryz.func6 (Eq.mp (f6.eq pcols pl_A pl_n pl_c H Q) h)

end Go.Proofs.YtmelbipidffmpaaGreatDoor.Hw

/- TreeChanges, walked. -/
set_option linter.unusedVariables false
set_option linter.unusedSimpArgs false
set_option linter.unusedSectionVars false
set_option maxRecDepth 20000
namespace Go.Proofs.YtmelbipidffmpaaGreatDoor.Hw
open Go Go.Proofs
theorem PutS.is {l l' : List EnM} {e : EnM} (h : PutS l e l') : l'.map sayE = (l.take (cntE l e) ++ e :: l.drop (cntE l e)).map sayE := by
  obtain ⟨a, b, rfl, h2, h3, h4⟩ := h
  have hc : cntE (a ++ b) e = a.length := take_is (p := fun z => decide (ordE z e < 0)) (fun i z hi hz => by
    rw [List.getElem?_append_left hi] at hz
    exact decide_eq_true (h3 z (List.mem_of_getElem? hz))) (fun z hz => by
    rw [List.getElem?_append_right (Nat.le_refl _), Nat.sub_self] at hz
    have := h4 z (List.mem_of_getElem? hz)
    have := ordE_ok.anti z e
    exact decide_eq_false (by omega)) (by simp)
  rw [hc, List.take_left' rfl, List.drop_left' rfl, h2]
  simp
section
variable {H : Hp} {A : Option Addr} {n c : Nat} {root cols : Int} {bl : List NdM} {Q : Value → Hp → Prop} {e : EnM}
end
end Go.Proofs.YtmelbipidffmpaaGreatDoor.Hw

/- TreeMakes, walked. -/
set_option linter.unusedVariables false
set_option linter.unusedSimpArgs false
set_option linter.unusedSectionVars false
set_option maxRecDepth 20000
namespace Go.Proofs.YtmelbipidffmpaaGreatDoor.Hw
open Go Go.Proofs
/-- What Make answers, in a number. -/
noncomputable def makeCode (cols : Int) (l : List EnM) : Int := if (1 ≤ cols ∧ cols ≤ 20) ∧ l.all (entB cols) = true then (@ite _ (NoTwo l) (Classical.propDecidable _) (if 4000 < l.length then 3 else 0) 14) else 2
theorem code_perm {cols : Int} {l l' : List EnM} (h : l'.Perm l) : makeCode cols l' = makeCode cols l := by
  unfold makeCode
  have h1 : l'.all (entB cols) = l.all (entB cols) := by
    rw [Bool.eq_iff_iff, List.all_eq_true, List.all_eq_true]
    exact ⟨fun k x hx => k x (h.mem_iff.2 hx), fun k x hx => k x (h.mem_iff.1 hx)⟩
  rw [h1, h.length_eq]
  have h2 := noTwo_perm h
  by_cases hn : NoTwo l
  · rw [if_pos (h2.2 hn), if_pos hn]
  · rw [if_neg (fun k => hn (h2.1 k)), if_neg hn]
theorem code_bad {cols : Int} {l : List EnM} (h : ¬ ((1 ≤ cols ∧ cols ≤ 20) ∧ l.all (entB cols) = true)) : makeCode cols l = 2 := by unfold makeCode; rw [if_neg h]
theorem code_two {cols : Int} {l : List EnM} (h : (1 ≤ cols ∧ cols ≤ 20) ∧ l.all (entB cols) = true) (h2 : ¬ NoTwo l) : makeCode cols l = 14 := by unfold makeCode; rw [if_pos h, if_neg h2]
theorem code_many {cols : Int} {l : List EnM} (h : (1 ≤ cols ∧ cols ≤ 20) ∧ l.all (entB cols) = true) (h2 : NoTwo l) (h3 : 4000 < l.length) : makeCode cols l = 3 := by unfold makeCode; rw [if_pos h, if_pos h2, if_pos h3]
theorem code_good {cols : Int} {l : List EnM} (h : (1 ≤ cols ∧ cols ≤ 20) ∧ l.all (entB cols) = true) (h2 : NoTwo l) (h3 : l.length ≤ 4000) : makeCode cols l = 0 := by unfold makeCode; rw [if_pos h, if_pos h2, if_neg (by omega)]
/-- A tree made of some entries, or none. -/
def MadeT (H : Hp) (cols : Int) (l : List EnM) (code : Int) (A : Option Addr) (n : Nat) (r c : Int) : Prop :=
  (code ≠ 0 ∧ A = none ∧ n = 0 ∧ r = 0 ∧ c = 0) ∨ (code = 0 ∧ ∃ bl l' dep L, n = bl.length ∧ r = 0 ∧ c = cols ∧ OutT H A bl cols l' dep ∧ L.Perm l ∧ SrtE L ∧ l'.map sayE = L.map sayE)
def MadeL (H : Hp) (l : List EnM) (code : Int) (B : Option Addr) (m : Nat) : Prop := code = 0 → ∃ M, M.Perm l ∧ SrtE M ∧ EsAt H B m M
section
variable {H H' : Hp} {cols code r cc : Int} {l l2 : List EnM} {A B : Option Addr} {n c m k : Nat} {Q : Value → Hp → Prop}
theorem MadeT.ext (T : MadeT H cols l code A n r cc) (hx : Ext H H') : MadeT H' cols l code A n r cc := by
  rcases T with h | ⟨h, bl, l', dep, L, a1, a2, a3, a4, a5⟩
  · exact .inl h
  · exact .inr ⟨h, bl, l', dep, L, a1, a2, a3, a4.ext2 hx, a5⟩
theorem MadeT.perm (T : MadeT H cols l code A n r cc) (h : l.Perm l2) : MadeT H cols l2 code A n r cc := by
  rcases T with h' | ⟨h', bl, l', dep, L, a1, a2, a3, a4, a5, a6⟩
  · exact .inl h'
  · exact .inr ⟨h', bl, l', dep, L, a1, a2, a3, a4, a5.trans h, a6⟩
theorem MadeL.ext (T : MadeL H l code B m) (hx : Ext H H') : MadeL H' l code B m := fun h => by
  obtain ⟨M, a1, a2, a3⟩ := T h
  exact ⟨M, a1, a2, a3.ext hx⟩
theorem c27m (T : MadeT H cols l code A n r cc) (L : MadeL H l code B m) (hq : ∀ H', Ext H H' → Q (.bool true) H') : HCalls Tryz.prog 27 [.agg #[.slice A n c, .int .i64 r, .int .i64 cc], .slice B m k, .int .i64 cols, .int .i64 code] H Q := by
  rcases T with ⟨h, rfl, rfl, rfl, rfl⟩ | ⟨h, bl, l', dep, L', rfl, rfl, rfl, O, hp, hs, he⟩
  · refine f27.ok _ _ _ _ _ _ _ _ _ _ ?_
    unfold f27
    exact cndT (by simpa using h) (jn_intro (fun J => J true) (hq H (Ext.refl _)) fun J hJ => cndT rfl (cndT rfl hJ))
  · subst h
    obtain ⟨M, a1, a2, a3⟩ := L rfl
    have : M = L' := srt_unique a2 hs (a1.trans hp.symm)
    subst this
    exact c27o O a3 he.symm hq
theorem m31 (N : NullAt H) (hl : EsAt H A n l) (hn4 : n ≤ 4398046510976) (hq : ∀ H' A' n' c' r cc, Ext H H' → MadeT H' cols l (makeCode cols l) A' n' r cc → Q (.tuple #[.agg #[.slice A' n' c', .int .i64 r, .int .i64 cc], .int .i64 (makeCode cols l)]) H') :
    HCalls Tryz.prog 31 [.int .i64 cols, .slice A n c] H Q := by
  refine c31 N hl.sl hl.key hn4 (fun h H' hx => ?_) (fun h h2 H' hx => ?_) (fun h h2 h3 H' hx => ?_) fun h h2 h3 H' A' c' bl l' L dep hx hp hs he O => ?_
  · have e := code_bad h
    have := hq H' none 0 0 0 0 hx (.inl ⟨by rw [e]; decide, rfl, rfl, rfl, rfl⟩)
    rw [e] at this; exact this
  · have e := code_two h h2
    have := hq H' none 0 0 0 0 hx (.inl ⟨by rw [e]; decide, rfl, rfl, rfl, rfl⟩)
    rw [e] at this; exact this
  · have e := code_many h h2 h3
    have := hq H' none 0 0 0 0 hx (.inl ⟨by rw [e]; decide, rfl, rfl, rfl, rfl⟩)
    rw [e] at this; exact this
  · have e := code_good h h2 h3
    have := hq H' A' bl.length c' 0 cols hx (.inr ⟨e, bl, l', dep, L, rfl, rfl, rfl, O, hp, hs, he⟩)
    rw [e] at this; exact this
theorem c30 (hl : EsAt H A n l) (hq : ∀ b, (b = true → l.length ≤ 2500 ∧ ∀ e ∈ l, e.key.length ≤ 2500) → Q (.bool b) H) : HCalls Tryz.prog 30 [.slice A n c] H Q := by
  refine f30.ok _ _ _ ?_
  unfold f30
  obtain rfl := hl.sl.len
  have hsm := hl.sl.small
  have hlt := hl.sl.lt
  refine loop_to l.length (fun i st H' => H' = H ∧ ∃ s : Int, st = ((s, ((i : Int), ())), ()) ∧ ((l.length : Nat) : Int) ≤ s ∧ (i = 0 → s = ((l.length : Nat) : Int)) ∧ (0 < i → s ≤ 2500) ∧ ∀ x ∈ l.take i, ((x.key.length : Nat) : Int) ≤ s) ⟨rfl, _, rfl, Int.le_refl _, fun _ => rfl, fun h => by omega, fun x hx => by simp at hx⟩ ?_
  rintro i st H2 next hi ⟨rfl, s, rfl, h1, h0, h2, h3⟩ hnext
  dsimp only
  refine cndI (fun h => ?_) fun h => hq _ fun hb => ?_
  · have h := of_decide_eq_true h
    obtain ⟨x, hx⟩ := get_of (l := l) (i := i) (by omega)
    have hxk := (hl.key x (List.mem_of_getElem? hx)).sl.small
    have hss : s ≤ 140737488355329 := by
      by_cases hi0 : i = 0
      · have := h0 hi0; unfold huge at hsm; omega
      · have := h2 (by omega); omega
    unfold huge at hxk
    have ew : IntKind.i64.wrap (s + ((x.key.length : Nat) : Int)) = s + ((x.key.length : Nat) : Int) := wrap_id (by omega) (by omega)
    refine ⟨by omega, by omega, rd_en hl.sl hx fun q o _ k1 k2 => ⟨_, _, _, by simpa using k1, _, by simpa using k2, cndI (fun hbig => hq _ fun h => by cases h) fun hbig => ⟨rfl, hnext _ _ (by omega) ⟨rfl, s + ((x.key.length : Nat) : Int), ?_, by omega, fun h => by omega, fun _ => ?_, fun y hy => ?_⟩⟩⟩⟩
    · rw [ew, wrap_id (x := (i : Int) + 1) (by omega) (by omega)]; rfl
    · rw [ew] at hbig
      have := of_decide_eq_false hbig
      omega
    · rw [take_snoc hx] at hy
      rcases List.mem_append.1 hy with hy | hy
      · have := h3 y hy; omega
      · rw [List.mem_singleton] at hy; subst hy; omega
  · have h := of_decide_eq_false h
    have hb := of_decide_eq_true hb
    have hil : i = l.length := by omega
    subst hil
    rw [List.take_length] at h3
    exact ⟨by omega, fun e he => by have := h3 e he; omega⟩
theorem c32 (hl : EsAt H A n l) (hn : n ≤ 2500) (hq : ∀ H' B m k, Ext H H' → MadeL H' l (makeCode cols l) B m → Q (.tuple #[.slice B m k, .int .i64 (makeCode cols l)]) H') : HCalls Tryz.prog 32 [.int .i64 cols, .slice A n c] H Q := by
  refine f32.ok _ _ _ _ ?_
  unfold f32
  obtain rfl := hl.sl.len
  have bad : ∀ H' cd, Ext H H' → makeCode cols l = cd → cd ≠ 0 → Q (.tuple #[.slice none 0 0, .int .i64 cd]) H' := fun H' cd hx e h0 => by
    have := hq H' none 0 0 hx (fun h => absurd (e ▸ h) h0)
    rw [e] at this; exact this
  refine jn_intro (fun J => (¬ (1 ≤ cols ∧ cols ≤ 20) → J true) ∧ ((1 ≤ cols ∧ cols ≤ 20) → J false)) ⟨fun h => cndT rfl (bad H 2 (Ext.refl _) (code_bad fun h' => h h'.1) (by decide)), fun hc => cndF rfl ?_⟩ fun J hJ => cndI (fun h => hJ.1 (by have := of_decide_eq_true h; omega)) fun h => ?_
  rotate_left
  · have h := of_decide_eq_false h
    cases h2 : decide (cols > 20) with
    | true => have := of_decide_eq_true h2; exact hJ.1 (by omega)
    | false => have := of_decide_eq_false h2; exact hJ.2 (by omega)
  refine loop_to l.length (fun i st H' => st = (((i : Int), ()), ()) ∧ H' = H ∧ (l.take i).all (entB cols) = true) ⟨rfl, rfl, rfl⟩ ?_
  rintro i st H4 next hi ⟨rfl, rfl, hall⟩ hnext
  dsimp only
  refine cndI (fun hlt => ?_) fun hlt => ?_
  · have hlt := of_decide_eq_true hlt
    obtain ⟨x, hx⟩ := get_of (l := l) (i := i) (by omega)
    have hxm := List.mem_of_getElem? hx
    refine ⟨by omega, by omega, rd_en hl.sl hx fun q o _ k1 k2 => ⟨_, _, _, by simpa using k1, _, by simpa using k2, c56 (cols := cols) (hl.key x hxm) hc.2 ⟨_, rfl, cndI (fun hb => ?_) fun hb => ⟨rfl, hnext _ _ (by omega) ⟨by rw [wrap_id (by omega) (by omega)]; rfl, rfl, ?_⟩⟩⟩⟩⟩
    · refine bad H4 2 (Ext.refl _) (code_bad fun h => ?_) (by decide)
      rw [List.all_eq_true] at h
      have := h.2 x hxm
      rw [this] at hb; cases hb
    · rw [all_take_succ hx, hall]
      have : entB cols x = true := by simpa using hb
      rw [this]; rfl
  have hlt := of_decide_eq_false hlt
  have hil : i = l.length := by omega
  subst hil
  rw [List.take_length] at hall
  have hok := And.intro hc hall
  have hent : ∀ x ∈ l, entB cols x = true := List.all_eq_true.1 hall
  refine loop_to l.length (fun i st H' => ∃ A' c' M, st = (((A', M.length, c'), ((i : Int), ())), ()) ∧ Ext H4 H' ∧ M.Perm (l.take i) ∧ SrtE M ∧ EsAt H' A' M.length M ∧ M.length ≤ c') ⟨none, 0, [], rfl, Ext.refl _, List.Perm.refl _, List.Pairwise.nil, ⟨⟨rfl, .inl rfl, by simp [huge]⟩, fun e he => by cases he⟩, Nat.le_refl _⟩ ?_
  rintro i st H13 next' hi' ⟨A', c', M, rfl, x13, hp, hs, hE, hcap⟩ hnext'
  dsimp only
  have hM : ∀ y ∈ M, y ∈ l := fun y hy => List.mem_of_mem_take (hp.mem_iff.1 hy)
  have hMl : M.length ≤ l.length := by rw [hp.length_eq, List.length_take]; omega
  refine cndI (fun hlt => ?_) fun hlt => ?_
  · have hlt := of_decide_eq_true hlt
    obtain ⟨x, hx⟩ := get_of (l := l) (i := i) (by omega)
    have hxm := List.mem_of_getElem? hx
    refine ⟨by omega, by omega, rd_en (hl.sl.ext x13) hx fun q o _ k1 k2 => ⟨_, _, _, by simpa using k1, _, by simpa using k2, ?_⟩⟩
    refine c57 (cols := cols) hE hcap ((hl.key x hxm).ext x13) (by omega) (fun y hy => hent y (hM y hy)) (hent x hxm) hs (fun hh => ⟨_, _, _, _, rfl, cndT rfl ?_⟩) fun hh A2 c2 H19 x19 hE' hc' => ⟨_, _, _, _, rfl, cndF rfl ⟨rfl, hnext' _ _ (by omega) ⟨A2, c2, M.take (cntE M x) ++ x :: M.drop (cntE M x), ?_, x13.trans x19, ?_, ?_, ?_, ?_⟩⟩⟩
    · refine bad H13 14 x13 (code_two hok fun hN => ?_) (by decide)
      obtain ⟨y, hy, hz⟩ := has_true hh
      have hy' := hp.mem_iff.1 hy
      obtain ⟨j, hj⟩ := List.mem_iff_getElem?.1 hy'
      have hjl := (List.getElem?_eq_some_iff.1 hj).1
      rw [List.length_take] at hjl
      rw [List.getElem?_take_of_lt (by omega)] at hj
      obtain ⟨a1, a2⟩ := List.getElem?_eq_some_iff.1 hj
      obtain ⟨a3, a4⟩ := List.getElem?_eq_some_iff.1 hx
      have := List.pairwise_iff_getElem.1 hN j i a1 a3 (by omega)
      rw [a2, a4] at this
      exact this hz
    · rw [wrap_id (by omega) (by omega)]
      have : (M.take (cntE M x) ++ x :: M.drop (cntE M x)).length = M.length + 1 := by have := cnt_le (l := M) (e := x); simp; omega
      rw [this]; rfl
    · rw [take_snoc hx]
      refine List.Perm.trans List.perm_middle ?_
      rw [List.take_append_drop]
      exact (hp.cons x).trans (List.perm_append_comm (l₁ := [x]))
    · exact (Put.here hs (has_false hs hh)).srt hs
    · have : (M.take (cntE M x) ++ x :: M.drop (cntE M x)).length = M.length + 1 := by have := cnt_le (l := M) (e := x); simp; omega
      rw [this]; exact hE'
    · have : (M.take (cntE M x) ++ x :: M.drop (cntE M x)).length = M.length + 1 := by have := cnt_le (l := M) (e := x); simp; omega
      rw [this]; exact hc'
  · have hlt := of_decide_eq_false hlt
    have hil : i = l.length := by omega
    subst hil
    rw [List.take_length] at hp
    have hN : NoTwo l := (noTwo_perm hp).1 (srt_noTwo hs)
    refine cndF (decide_eq_false (by omega)) ?_
    have e := code_good hok hN (by omega)
    have := hq H13 A' M.length c' x13 (fun _ => ⟨M, hp, hs, hE⟩)
    rw [e] at this
    exact this
end
end Go.Proofs.YtmelbipidffmpaaGreatDoor.Hw

/- TreeMakes, walked: the whole. -/
set_option linter.unusedVariables false
set_option linter.unusedSimpArgs false
set_option linter.unusedSectionVars false
set_option maxRecDepth 20000
namespace Go.Proofs.YtmelbipidffmpaaGreatDoor.Hw
open Go Go.Proofs
section
variable {H : Hp} {cols : Int} {l : List EnM} {A : Option Addr} {n c : Nat} {Q : Value → Hp → Prop}
theorem nil_es : EsAt H none 0 [] := ⟨⟨rfl, .inl rfl, by simp [huge]⟩, fun e he => by cases he⟩
theorem m33 (hq : ∀ H' A' n' c' r cc, Ext H H' → MadeT H' cols [] (makeCode cols []) A' n' r cc → Q (.tuple #[.agg #[.slice A' n' c', .int .i64 r, .int .i64 cc], .int .i64 (makeCode cols [])]) H') : HCalls Tryz.prog 33 [.int .i64 cols] H Q := by
  refine c33 (fun h => ?_) fun h H' A' c' bl hx O => ?_
  · have e := code_bad (cols := cols) (l := []) fun h' => h h'.1
    have := hq H none 0 0 0 0 (Ext.refl _) (.inl ⟨by rw [e]; decide, rfl, rfl, rfl, rfl⟩)
    rw [e] at this; exact this
  · have e := code_good (cols := cols) (l := []) ⟨h, rfl⟩ List.Pairwise.nil (by simp)
    have := hq H' A' bl.length c' 0 cols hx (.inr ⟨e, bl, [], 1, [], rfl, rfl, rfl, O, List.Perm.refl _, List.Pairwise.nil, rfl⟩)
    rw [e] at this; exact this
theorem c6 (N : NullAt H) (hl : EsAt H A n l) (hn4 : n ≤ 4398046510976) (hq : ∀ H', Ext H H' → Q (.bool true) H') : HCalls Tryz.prog 6 [.int .i64 cols, .slice A n c] H Q := by
  refine f6.ok _ _ _ _ ?_
  unfold f6
  obtain rfl := hl.sl.len
  refine c30 hl fun b hb => ⟨_, rfl, cndI (fun h => c10 H _ N fun H' hx => ⟨_, rfl, hq H' hx⟩) fun h => ?_⟩
  have hb := hb (by simpa using h)
  have h25 := hb.1
  refine m31 N hl hn4 fun H8 A9 n9 c9 x10 x11 x8 T8 => ⟨_, _, _, _, _, _, rfl, ?_⟩
  refine c32 (hl.ext x8) h25 fun H14 A15 n15 c15 x14 L14 => ⟨_, _, _, _, rfl, ?_⟩
  have y14 := x8.trans x14
  refine jn_intro (fun J => ∀ H', Ext H14 H' → J false H') (fun H21 x21 => cndF rfl ?_) fun J hJ => cndF (by simp) (c27m (T8.ext x14) L14 fun H18 x18 => ⟨_, rfl, hJ H18 x18⟩)
  have y21 := y14.trans x21
  have N21 := N.ext y21
  refine loop_to l.length (fun i st H' => ∃ A' c', st = (((A', (l.reverse.take i).length, c'), ((i : Int), ())), ()) ∧ Ext H21 H' ∧ Row H21 H' A' (l.reverse.take i).length c' 2 ((l.reverse.take i).flatMap enC)) ⟨none, 0, rfl, Ext.refl _, Row.nil⟩ ?_
  rintro i st H24 next hi ⟨A', c', rfl, x24, R24⟩ hnext
  dsimp only
  have y24 := y21.trans x24
  refine cndI (fun hlt => ?_) fun hlt => ?_
  · have hlt := of_decide_eq_true hlt
    have ew : IntKind.i64.wrap (IntKind.i64.wrap (((l.length : Nat) : Int) - 1) - (i : Int)) = ((l.length - 1 - i : Nat) : Int) := by rw [wrap_id (x := ((l.length : Nat) : Int) - 1) (by omega) (by omega), wrap_id (by omega) (by omega)]; omega
    rw [ew]
    obtain ⟨x, hx⟩ := get_of (l := l) (i := l.length - 1 - i) (by omega)
    have hr : l.reverse[i]? = some x := by rw [List.getElem?_reverse (by omega)]; exact hx
    refine ⟨by omega, by omega, rd_en (hl.sl.ext y24) hx fun q o _ k1 k2 => ⟨_, _, _, by simpa using k1, _, by simpa using k2, fun g29 hg29 => ?_⟩⟩
    refine Row.push1 (w := x) enC_len enC_one (by omega) R24 x24 (by rw [List.length_take]; unfold big; omega) hg29 fun A31 c31 H32 R32 x32 _ _ => ⟨rfl, hnext _ _ (by omega) ?_⟩
    rw [← take_snoc hr] at R32 ⊢
    exact ⟨A31, c31, by rw [wrap_id (by omega) (by omega)]; rfl, x32, R32⟩
  have hlt := of_decide_eq_false hlt
  have hil : i = l.length := by omega
  subst hil
  have ht : l.reverse.take l.length = l.reverse := List.take_of_length_le (by simp)
  rw [ht] at R24 ⊢
  have hp := List.reverse_perm l
  have hcode := code_perm (cols := cols) hp
  have E24 : EsAt H24 A' l.reverse.length l.reverse := ⟨⟨rfl, R24.cells, by rw [List.length_reverse]; unfold huge; omega⟩, fun e he => (hl.key e (by simpa using he)).ext y24⟩
  refine m31 (cols := cols) (N.ext y24) E24 (by rw [List.length_reverse]; omega) fun H34 A35 n35 c35 x36 x37 x34 T34 => ⟨_, _, _, _, _, _, rfl, ?_⟩
  rw [hcode] at T34 ⊢
  have y34 := y24.trans x34
  have z34 := x21.trans (x24.trans x34)
  refine jn_intro (fun J => ∀ H', Ext H34 H' → J false H') (fun H43 x43 => cndF rfl ?_) fun J hJ => cndF (by simp) (c27m (T34.perm hp) (L14.ext z34) fun H40 x40 => ⟨_, rfl, hJ H40 x40⟩)
  have y43 := y34.trans x43
  refine m33 fun H46 A47 n47 c47 x48 x49 x46 T46 => ⟨_, _, _, _, _, _, rfl, ?_⟩
  refine c32 nil_es (by omega) fun H52 A53 n53 c53 x52 _ => ⟨_, _, _, _, rfl, ?_⟩
  have y52 := y43.trans (x46.trans x52)
  refine jn_intro (fun J => ∀ H', Ext H H' → J true H') (fun H' hx => hq H' hx) fun J hJ => cndT (by simp) (c27m (T46.ext x52) (fun _ => ⟨[], List.Perm.refl _, List.Pairwise.nil, nil_es⟩) fun H56 x56 => ⟨_, rfl, cndT rfl (c10 H56 _ (N.ext (y52.trans x56)) fun H' hx => ⟨_, rfl, hJ H' (y52.trans (x56.trans hx))⟩)⟩)
end
end Go.Proofs.YtmelbipidffmpaaGreatDoor.Hw

/- The row TreeMakes and its card: for every started Os and all arguments of the statement's domain the function returns true. No condition. -/
set_option linter.unusedVariables false
set_option linter.unusedSimpArgs false
set_option maxRecDepth 100000
namespace Go.Proofs.YtmelbipidffmpaaGreatDoor
open Go.ChangeShapes Go.WideShapes Go.ChangeAt Go.RowKit
open Hw
theorem int_of {P : Program} {W : World} {base : Nat} {t : TypeId} {k k' : IntKind} {v : Value} {n : Int} (hs : P.underlying t = some (.int k)) (h : Value.okWide P W .any base t v) (hc : v.cells.toList = [.int k' n]) : v = .int k' n := by
  simp only [Value.okWide, hs, Cell.okWide] at h
  cases v <;> simp_all [Cell.ok, Value.cells]
theorem makes_lifted (os : Os) (started : os.Started) (H : Type) (enc : TypeId × Value → H) :
    ReturnsInHanded {} Tryz.checked os 6 .any (fun w args => (Rows.treeMakesSpec.pre enc Tryz.prog Tryz.f6 Rows.treeMakesRow.domain false w args ∧ laidMet Tryz.prog Rows.treeMakesRow.laid w) ∧ sizedMet enc Tryz.prog Tryz.f6 (OpenSpec.ofChange Rows.treeMakesSpec) false w args)
      (Rows.treeMakesSpec.post enc Tryz.prog Tryz.f6 Rows.treeMakesRow.apart Rows.treeMakesRow.fresh Rows.treeMakesRow.handsOn Rows.treeMakesRow.again) := by
  refine returnsInHanded_of_change_and (C := Tryz.checked) (X := fun w _ => laidMet Tryz.prog theLaid w) (fun _ _ _ hh h => h.of_heap hh) ownK started (by kernel_rfl) Tryz.func6
    (ChangeSpec.witness_at (enc := enc) (C := Tryz.checked) (os := os) (X := fun w _ => laidMet Tryz.prog theLaid w) false (World.holding Tryz.prog os ⟨#[], #[], []⟩) #[.int .i64 0, .slice none 0 0] 8 rfl (by kernel_rfl) (by kernel_rfl) (by kernel_rfl) (by kernel_rfl) (by kernel_rfl) (laid_met os _)) ?_
  intro W base args ds gs before hval0 hW hcnd hsz0 hL _
  have hval : ∀ (j : Nat) t v, Tryz.f6.params[j]? = some t → args[j]? = some v → Value.okWide Tryz.prog W .any base t v := hval0
  have hsz : (DataW.weightsEach Tryz.prog (Tryz.f6.params.toList ++ Rows.treeMakesSpec.plain.varTypes Tryz.prog) (ds ++ gs)).all (· ≤ reachBytes) = true := hsz0
  have hW' := hW
  obtain ⟨p, q, hA0, hV, rfl, hfz, hnd⟩ := hW
  have hA : DataW.TrodAll enc Tryz.prog W 0 (fun _ => true) true Tryz.f6.params.toList args.toList ds p := hA0
  rw [Tryz.params6] at hA hval hsz
  obtain ⟨v0, v1, d0, d1, p0, p1, rfl, rfl, rfl, h0, h1⟩ := trodAll_two hA
  obtain ⟨rfl, rfl⟩ := trodVars_none hV
  have hs0 : Sz Tryz.prog 3 d0 := fun n hn => by
    have := List.all_eq_true.1 hsz n (DataW.weights_mem_each (j := 0) rfl rfl n hn)
    exact of_decide_eq_true this
  have hs1 : Sz Tryz.prog 28 d1 := fun n hn => by
    have := List.all_eq_true.1 hsz n (DataW.weights_mem_each (j := 1) rfl rfl n hn)
    exact of_decide_eq_true this
  obtain ⟨fl0, e0⟩ := h0
  obtain ⟨fl1, e1⟩ := h1
  obtain ⟨cols, hc0, _⟩ := DataW.trod_int u3 e0
  obtain ⟨A, n, c, l, hc1, hE, hK, _, hn4⟩ := open_ents hs1 e1
  have g0 := int_of u3 (hval 0 3 v0 rfl rfl) hc0
  have g1 := slice_of u28 (hval 1 28 v1 rfl rfl) hc1
  subst g0
  subst g1
  have key := c6 (c := c) (cols := cols) (Q := fun v H' => v = .bool true ∧ Ext (hpOf W) H') (null_of_laid hL) ⟨hE, hK⟩ hn4 (fun H' hx => ⟨rfl, hx⟩) W (fun b o h => h)
  refine Calls.mono key ?_
  rintro e W' ⟨v, H', rfl, ⟨rfl, hx⟩, hh, hf, _⟩
  refine ⟨_, rfl, post_look (f := Tryz.f6) cellsB_prog (by rw [Tryz.params6]; decide) hW' rfl rfl rfl (fun b sp hd => ?_) (fun b o h => hh b o (hx b o h)) hf.1 hf.2.2.1 ?_⟩
  · exact res_bool b sp hd true
  · exact ok_bools rfl true
theorem makes_row : Rows.TreeMakesSaid :=
  OpenClaim.holds_of_wide 6 Tryz.f6 rfl rfl rfl rfl rfl rfl rfl ⟨rfl, rfl, rfl, rfl, rfl⟩ rfl rfl rfl rfl rfl (by kernel_rfl) Tryz.func6 (by kernel_rfl)
    (of_decide_eq_true (by kernel_rfl)) (by unfold Func.isWrapper; first | (rw [if_pos (by decide +kernel)]; kernel_rfl) | (rw [if_neg (by decide +kernel)]; exact ⟨rfl, rfl⟩))
    (fun os started H enc _ => makes_lifted os started H enc)
theorem wants3 : Tryz.prog.wantsStandIn 3 = false := by kernel_rfl
theorem wants28 : Tryz.prog.wantsStandIn 28 = false := by kernel_rfl
theorem makes_card : Rows.TreeMakesCardSaid :=
  Claim7.holds_tied_plain_at .later [] [.data] true (true, "23305348b4ba4c31fb5a626f45f9e6925a27ab1b066bd0b37f3c06df2b996abf") false
    makes_row (fun _ h => by cases h) (by kernel_rfl) (fun _ h => by cases h) treeMakes_row_tie rfl ⟨rfl, rfl⟩ (by kernel_rfl) rfl
    (fun f fn hf hfn => by
      obtain rfl : f = 6 := Option.some.inj ((show Tryz.prog.funcNamed "justiciar/justiciarlaw17.TreeMakes" = some 6 by kernel_rfl).symm.trans hf) |>.symm
      obtain rfl : fn = Tryz.f6 := (Option.some.inj (Tryz.func6.symm.trans hfn)).symm
      exact ⟨by kernel_rfl, fun j t ht => by
        rw [Tryz.params6] at ht
        rcases j with _ | _ | j
        · cases (Option.some.inj ht); exact wants3
        · cases (Option.some.inj ht); exact wants28
        · simp at ht⟩)
    (by kernel_rfl)
end Go.Proofs.YtmelbipidffmpaaGreatDoor

/- TreeGrows: what it leans on. -/
set_option linter.unusedVariables false
set_option linter.unusedSimpArgs false
set_option linter.unusedSectionVars false
set_option maxRecDepth 20000
namespace Go.Proofs.YtmelbipidffmpaaGreatDoor.Hw
open Go Go.Proofs
section
variable {H' : Hp} {Q : Value → Hp → Prop}
/-- A call that is told of a part of the heap: what lies beside stays. -/
theorem HCalls.part {f : FuncId} {args : List Value} {Hs : Hp} (h : HCalls Tryz.prog f args Hs Q) (hx : Ext Hs H') : HCalls Tryz.prog f args H' (fun v H13 => ∃ H1, Q v H1 ∧ Ext H1 H13 ∧ ∀ b, Hs b = none → H' b ≠ none → H1 b = none ∧ H13 b = H' b) := by
  obtain ⟨F, hF1, hF2⟩ : ∃ F : Hp, (∀ b, Hs b = none → F b = H' b) ∧ (∀ b, Hs b ≠ none → F b = none) := ⟨fun b => match Hs b with | some _ => none | none => H' b, fun b hb => by simp only [hb], fun b hb => by
    cases hc : Hs b with
    | some o => simp only [hc]
    | none => exact absurd hc hb⟩
  have e : H' = fun b => match Hs b with | some o => some o | none => F b := by
    funext b
    cases hb : Hs b with
    | some o => exact hx b o hb
    | none => simp only [hF1 b hb]
  have hf : HCalls Tryz.prog f args H' (fun v H'' => ∃ H1, Q v H1 ∧ (∀ b, H1 b ≠ none → F b = none) ∧ H'' = fun b => match H1 b with | some o => some o | none => F b) := by
    rw [e]
    exact HCalls.frame (F := F) h hF2
  refine hf.mono fun v H13 ⟨H1, hq, hd, he⟩ => ⟨H1, hq, fun b o hb => by rw [he]; simp only [hb], fun b hb hb2 => ?_⟩
  have hn : H1 b = none := by
    cases hc : H1 b with
    | none => rfl
    | some o =>
      have := hd b (by rw [hc]; simp)
      rw [hF1 b hb] at this
      exact absurd this hb2
  refine ⟨hn, ?_⟩
  rw [he]
  simp only [hn, hF1 b hb]
end
theorem full_false : ∀ {h : Nat} {t : BT}, FullB false h t → 4 ^ (h + 1) ≤ (flatB h t).length + 1
  | 0, t, F => by
    have h3 : 3 ≤ t.es.length := by rcases F.2.2 with h | h; cases h; exact h
    show 4 ^ 1 ≤ t.es.length + 1
    omega
  | h + 1, t, ⟨f1, f2, f3, f4, f5⟩ => by
    have hl : (flatB (h + 1) t).length = ((t.ks.map (flatB h)).map List.length).sum + t.es.length := len_inter (by rw [List.length_map]; exact f1)
    have h3 : 3 ≤ t.es.length := by rcases f3 with h | h; cases h; exact h
    have key : ∀ ks : List BT, (∀ u ∈ ks, FullB false h u) → ks.length * 4 ^ (h + 1) ≤ ((ks.map (flatB h)).map List.length).sum + ks.length := by
      intro ks
      induction ks with
      | nil => intro _; simp
      | cons u r ih =>
        intro hu
        have h1 := full_false (hu u (List.mem_cons_self ..))
        have h2 := ih fun v hv => hu v (List.mem_cons_of_mem _ hv)
        simp only [List.map_cons, List.sum_cons, List.length_cons, Nat.succ_mul]
        omega
    have hk := key t.ks f5
    have : 4 * 4 ^ (h + 1) ≤ t.ks.length * 4 ^ (h + 1) := Nat.mul_le_mul_right _ (by omega)
    rw [Nat.pow_succ 4 (h + 1), Nat.mul_comm (4 ^ (h + 1)) 4]
    omega
/-- So deep a tree has so many entries. -/
theorem full_true {h : Nat} {t : BT} (F : FullB true (h + 1) t) : 2 * 4 ^ (h + 1) ≤ (flatB (h + 1) t).length + 1 := by
  obtain ⟨f1, f2, f3, f4, f5⟩ := F
  have hl : (flatB (h + 1) t).length = ((t.ks.map (flatB h)).map List.length).sum + t.es.length := len_inter (by rw [List.length_map]; exact f1)
  have key : ∀ ks : List BT, (∀ u ∈ ks, FullB false h u) → ks.length * 4 ^ (h + 1) ≤ ((ks.map (flatB h)).map List.length).sum + ks.length := by
    intro ks
    induction ks with
    | nil => intro _; simp
    | cons u r ih =>
      intro hu
      have h1 := full_false (hu u (List.mem_cons_self ..))
      have h2 := ih fun v hv => hu v (List.mem_cons_of_mem _ hv)
      simp only [List.map_cons, List.sum_cons, List.length_cons, Nat.succ_mul]
      omega
  have hk := key t.ks f5
  have : 2 * 4 ^ (h + 1) ≤ t.ks.length * 4 ^ (h + 1) := Nat.mul_le_mul_right _ (by omega)
  omega
/-- What is put in is there. -/
theorem put_perm {l l' : List EnM} {e : EnM} (h : PutS l e l') : (l'.map sayE).Perm (sayE e :: l.map sayE) := by
  obtain ⟨a, b, rfl, h2, _, _⟩ := h
  rw [h2, List.map_append]
  exact List.perm_middle
/-- Of two entries that say the same one place alone is theirs. -/
theorem say_at {l : List EnM} {e x y : EnM} (hs : SrtE l) (hx : x ∈ l) (hxe : sayE x = sayE e) (hy : l[cntE l e]? = some y) (h0 : ordE y e = 0) : sayE y = sayE e := by
  have h1 : ordE y x = 0 := by rw [ord_say (a := y) (b := x) rfl hxe]; exact h0
  obtain ⟨i, hi⟩ := List.mem_iff_getElem?.1 hx
  obtain ⟨a1, a2⟩ := List.getElem?_eq_some_iff.1 hi
  obtain ⟨b1, b2⟩ := List.getElem?_eq_some_iff.1 hy
  have hlt := List.pairwise_iff_getElem.1 hs
  have : i = cntE l e := by
    refine Classical.byContradiction fun hn => ?_
    rcases Nat.lt_or_gt_of_ne hn with h | h
    · have := hlt i (cntE l e) a1 b1 h
      rw [a2, b2] at this
      have := ordE_ok.anti y x
      omega
    · have := hlt (cntE l e) i b1 a1 h
      rw [a2, b2] at this
      omega
  subst this
  rw [hi] at hy
  cases hy
  exact hxe
theorem has_say {l : List EnM} {e x : EnM} (hs : SrtE l) (hx : x ∈ l) (hxe : sayE x = sayE e) : hasE l e = true :=
  has_of hs ⟨x, hx, by rw [ord_say hxe (rfl : sayE e = sayE e)]; exact ordE_ok.self e⟩
/-- What is taken out is gone. -/
theorem take_perm {l l' hv : List EnM} {e : EnM} {k : Nat} (hs : SrtE l) (hp : (l.map sayE).Perm (hv.map sayE)) (hk : hv[k]? = some e) (hl : l'.map sayE = (l.take (cntE l e) ++ l.drop (cntE l e + 1)).map sayE) :
    (l'.map sayE).Perm ((hv.take k ++ hv.drop (k + 1)).map sayE) := by
  have hem : sayE e ∈ l.map sayE := hp.mem_iff.2 (List.mem_map_of_mem (List.mem_of_getElem? hk))
  obtain ⟨x, hx, hxe⟩ := List.mem_map.1 hem
  have hhas := has_say hs hx hxe
  obtain ⟨y, hy, h0⟩ := has_get hhas
  have hsy := say_at hs hx hxe hy h0
  have e1 : (l.map sayE).Perm (sayE e :: l'.map sayE) := by
    rw [hl, ← hsy]
    conv => lhs; rw [kids_split hy]
    rw [List.map_append, List.map_append, List.map_cons]
    exact List.perm_middle
  have e2 : (hv.map sayE).Perm (sayE e :: (hv.take k ++ hv.drop (k + 1)).map sayE) := by
    conv => lhs; rw [kids_split hk]
    rw [List.map_append, List.map_append, List.map_cons]
    exact List.perm_middle
  exact (List.perm_cons _).1 (e1.symm.trans (hp.trans e2))
/-- Find finds what is there. -/
theorem find_has {l : List EnM} {e x : EnM} (hx : x ∈ l) (hxe : sayE x = sayE e) : e.id ∈ betw l e.key e.key := by
  have k1 : x.key = e.key := congrArg Prod.fst hxe
  have k2 : x.id = e.id := congrArg Prod.snd hxe
  unfold betw
  rw [← k2]
  refine List.mem_map_of_mem (List.mem_filter.2 ⟨hx, ?_⟩)
  unfold passE cmpK
  rw [k1, List.take_length, ordL_ok.self]
  rfl
theorem find_is {bl : List NdM} {S : Sv} {key : List Vl} (h : treeV bl 0 1 = some S) (h1 : key.length = 1) (hv : validL key = true) : findT (treeV bl 0 1) 1 key = (betw S.out key key, 0) := by
  unfold findT betT
  rw [h, if_neg (by omega)]
  have : keyG 0 1 key = true := by unfold keyG; rw [hv, h1]; rfl
  simp only [this, Bool.and_self, if_true]
  rfl
/-- What was put in so far, and the tree that has it; a part of the heap in which the slice does not lie. -/
structure G1 (H H' X : Hp) (A : Option Addr) (c : Nat) (hv : List EnM) (Ta : Option Addr) (bl : List NdM) (lt : List EnM) (dep : Int) : Prop where
  xX : Ext H X
  xH : Ext X H'
  row : Row H H' A hv.length c 2 (hv.flatMap enC)
  hid : ∀ b, rowB A b → X b = none
  out : OutT X Ta bl 1 lt dep
  perm : (lt.map sayE).Perm (hv.map sayE)
  key : ∀ e ∈ hv, KeyAt H e
theorem cut_key {H : Hp} {x : EnM} (hK : KeyAt H x) (h : 1 < x.key.length) : KeyAt H ⟨x.A, 1, x.key.take 1, x.id⟩ := by
  have h1 := sl_take (m := 1) vlC_len hK.sl (by omega)
  have hl : (x.key.take 1).length = 1 := by rw [List.length_take]; omega
  refine ⟨?_, by show (x.key.take 1).length ≤ 1; omega, fun v hv => hK.tx v (List.mem_of_mem_take hv)⟩
  show SlAt vlC H x.A (x.key.take 1).length (x.key.take 1)
  rw [hl]; exact h1
end Go.Proofs.YtmelbipidffmpaaGreatDoor.Hw

/- What functions of the program come to, by the evaluator: printed by a program of this session (gen.py) and checked here. -/
set_option linter.unusedVariables false
set_option maxRecDepth 100000
namespace Go.Proofs.YtmelbipidffmpaaGreatDoor.Hw
open Go Go.Proofs

/-- justiciar justiciarlaw17.TreeGrows -/
def f7 (pl_A : Option Addr) (pl_n pl_c : Nat) (pout_A : Option Addr) (pout_n pout_c : Nat) (H : Hp) (Q : Value → Hp → Prop) : Prop :=
  jn (fun (j4 : Bool) (H5 : Hp) => cnd j4 (HCalls Tryz.prog 10 [] H5 fun v7 H8 => ∃ x9 : Bool, v7 = .bool x9 ∧ Q (.bool x9) H8) (HCalls Tryz.prog 33 [.int .i64 1] H5 fun v10 H11 => ∃ (A12 : Option Addr) (n12 c12 : Nat), ∃
    x13 : Int, ∃ x14 : Int, ∃ x15 : Int, v10 = .tuple #[.agg #[.slice A12 n12 c12, .int .i64 x13, .int .i64 x14], .int .i64 x15] ∧ cnd ((x15 : Int) != 0) (Q (.bool false) H11) (LoopF (σ := ((Option Addr × Nat × Nat) ×
    (Int × Unit)) × (((Option Addr × Nat × Nat) × (Int × (Int × Unit))) × Unit)) (((none, 0, 0), (0, ())), (((A12, n12, c12), (x13, (x14, ()))), ())) H11 fun s16 H17 next18 => cnd (decide ((s16.1.2.1 : Int) < ((pl_n :
    Nat) : Int))) (jn (fun (jA36 : Option Addr) (jn37 : Nat) (jc38 : Nat) (jA39 : Option Addr) (jn40 : Nat) (jc41 : Nat) (j42 : Int) (j43 : Int) (H44 : Hp) => KeepX [some (.v (.slice pout_A pout_n pout_c)), some (.loc 5
    0), some (.v (.slice pl_A pl_n pl_c)), some (.v (.int .i64 ((pl_n : Nat) : Int)))] [] ∧ next18 (((jA36, jn37, jc38), (IntKind.i64.wrap (s16.1.2.1 + 1), ())), (((jA39, jn40, jc41), (j42, (j43, ()))), ())) H44) fun J45
    => 0 ≤ (s16.1.2.1 : Int) ∧ (s16.1.2.1 : Int) < ((pl_n : Nat) : Int) ∧ onPtr pl_A fun b19 o19 => ∃ (A20 : Option Addr) (n20 c20 : Nat), cl H17 b19 (o19 + (s16.1.2.1 : Int).toNat * 2) = some (.slice A20 n20 c20) ∧ ∃ x21
    : Int, cl H17 b19 ((o19 + (s16.1.2.1 : Int).toNat * 2) + 1) = some (.int .i64 x21) ∧ jn (fun (jA22 : Option Addr) (jn23 : Nat) (jc24 : Nat) => HCalls Tryz.prog 25 [.agg #[.slice s16.2.1.1.1 s16.2.1.1.2.1
    s16.2.1.1.2.2, .int .i64 s16.2.1.2.1, .int .i64 s16.2.1.2.2.1], .agg #[.slice jA22 jn23 jc24, .int .i64 x21]] H17 fun v26 H27 => ∃ (A28 : Option Addr) (n28 c28 : Nat), ∃ x29 : Int, ∃ x30 : Int, ∃ x31 : Int, v26 =
    .tuple #[.agg #[.slice A28 n28 c28, .int .i64 x29, .int .i64 x30], .int .i64 x31] ∧ cnd ((x31 : Int) != 0) (J45 s16.1.1.1 s16.1.1.2.1 s16.1.1.2.2 s16.2.1.1.1 s16.2.1.1.2.1 s16.2.1.1.2.2 s16.2.1.2.1 s16.2.1.2.2.1 H27)
    (newF H27 46 [.slice jA22 jn23 jc24, .int .i64 x21] fun g32 H33 => appendF H33 46 2 32 s16.1.1.1 s16.1.1.2.1 s16.1.1.2.2 (some ⟨g32, 0, none⟩) 1 fun A34 n34 c34 H35 => J45 A34 n34 c34 A28 n28 c28 x29 x30 H35)) fun J25
    => cnd (decide ((((n20 : Nat) : Int) : Int) > 1)) (0 ≤ (1 : Int) ∧ (1 : Int) ≤ ((c20 : Nat) : Int) ∧ 0 ≤ (1 : Int) ∧ (1 : Int) ≤ (1 : Int) ∧ J25 (cutA A20 (0 * 3) (decide (((1 : Int).toNat) = 0))) (((1 : Int).toNat) -
    0) (((1 : Int).toNat) - 0)) (J25 A20 n20 c20)) (jn (fun (jA76 : Option Addr) (jn77 : Nat) (jc78 : Nat) (jA79 : Option Addr) (jn80 : Nat) (jc81 : Nat) (j82 : Int) (j83 : Int) (H84 : Hp) => HCalls Tryz.prog 11 [.agg
    #[.slice jA79 jn80 jc81, .int .i64 j82, .int .i64 j83]] H84 fun v86 H87 => ∃ (A88 : Option Addr) (n88 c88 : Nat), ∃ x89 : Int, v86 = .tuple #[.slice A88 n88 c88, .int .i64 x89] ∧ HCalls Tryz.prog 16 [.agg #[.slice
    jA79 jn80 jc81, .int .i64 j82, .int .i64 j83]] H87 fun v90 H91 => ∃ x92 : Int, ∃ x93 : Int, v90 = .tuple #[.int .i64 x92, .int .i64 x93] ∧ jn (fun (j97 : Bool) (H98 : Hp) => cnd j97 (Q (.bool false) H98) (LoopF (σ :=
    (Int × Unit) × Unit) ((0, ()), ()) H98 fun s100 H101 next102 => cnd (decide ((s100.1.1 : Int) < ((jn77 : Nat) : Int))) (0 ≤ (s100.1.1 : Int) ∧ (s100.1.1 : Int) < ((jn77 : Nat) : Int) ∧ onPtr jA76 fun b103 o103 => ∃
    (A104 : Option Addr) (n104 c104 : Nat), cl H101 b103 (o103 + (s100.1.1 : Int).toNat * 2) = some (.slice A104 n104 c104) ∧ ∃ x105 : Int, cl H101 b103 ((o103 + (s100.1.1 : Int).toNat * 2) + 1) = some (.int .i64 x105) ∧
    HCalls Tryz.prog 20 [.agg #[.slice jA79 jn80 jc81, .int .i64 j82, .int .i64 j83], .slice A104 n104 c104] H101 fun v106 H107 => ∃ (A108 : Option Addr) (n108 c108 : Nat), ∃ x109 : Int, v106 = .tuple #[.slice A108 n108
    c108, .int .i64 x109] ∧ LoopF (σ := (Bool × (Int × Unit)) × Unit) ((false, (0, ())), ()) H107 fun s110 H111 next112 => cnd (decide ((s110.1.2.1 : Int) < ((n108 : Nat) : Int))) (jn (fun (j115 : Bool) => KeepX [some
    (.loc 5 0), some (.v (.slice A88 n88 c88)), some (.v (.int .i64 x92)), some (.loc 22 0), some (.v (.int .i64 x109)), some (.v (.slice jA76 jn77 jc78)), some (.v (.int .i64 ((jn77 : Nat) : Int))), some (.v (.int .i64
    s100.1.1)), some (.v (.slice A108 n108 c108)), some (.v (.int .i64 ((n108 : Nat) : Int)))] [some (true, [.slice jA79 jn80 jc81, .int .i64 j82, .int .i64 j83]), some (true, [.slice A104 n104 c104, .int .i64 x105])] ∧
    next112 ((j115, (IntKind.i64.wrap (s110.1.2.1 + 1), ())), ()) H111) fun J116 => 0 ≤ (s110.1.2.1 : Int) ∧ (s110.1.2.1 : Int) < ((n108 : Nat) : Int) ∧ onPtr A108 fun b113 o113 => ∃ x114 : Int, cl H111 b113 (o113 +
    (s110.1.2.1 : Int).toNat * 1) = some (.int .i64 x114) ∧ cnd s110.1.1 (J116 true) (J116 ((x114 : Int) == x105))) (jn (fun (j117 : Bool) => cnd j117 (Q (.bool false) H111) (KeepX [some (.loc 5 0), some (.v (.slice A88
    n88 c88)), some (.v (.int .i64 x92)), some (.v (.slice jA76 jn77 jc78)), some (.v (.int .i64 ((jn77 : Nat) : Int)))] [some (true, [.slice jA79 jn80 jc81, .int .i64 j82, .int .i64 j83])] ∧ next102 ((IntKind.i64.wrap
    (s100.1.1 + 1), ()), ()) H111)) fun J118 => cnd ((x109 : Int) != 0) (J118 true) (J118 (!s110.1.1)))) (LoopF (σ := (Int × (Int × Unit)) × Unit) ((1, (0, ())), ()) H101 fun s119 H120 next121 => cnd (decide ((s119.1.2.1
    : Int) < (IntKind.i64.wrap (x92 - 1)))) (KeepX [some (.v (.slice A88 n88 c88)), some (.v (.int .i64 x92)), some (.v (.int .i64 (IntKind.i64.wrap (x92 - 1))))] [] ∧ next121 ((IntKind.i64.wrap (s119.1.1 * 4),
    (IntKind.i64.wrap (s119.1.2.1 + 1), ())), ()) H120) (jn (fun (j128 : Bool) (H129 : Hp) => Q (.bool j128) H129) fun J130 => cnd ((x92 : Int) == 1) (HCalls Tryz.prog 10 [] H120 fun v122 H123 => ∃ x124 : Bool, v122 =
    .bool x124 ∧ J130 x124 H123) (cnd (decide ((((n88 : Nat) : Int) : Int) ≥ (IntKind.i64.wrap ((IntKind.i64.wrap (2 * s119.1.1)) - 1)))) (HCalls Tryz.prog 10 [] H120 fun v125 H126 => ∃ x127 : Bool, v125 = .bool x127 ∧
    J130 x127 H126) (J130 false H120)))))) fun J99 => cnd ((x89 : Int) != 0) (J99 true H91) (cnd ((x93 : Int) != 0) (J99 true H91) (cnd ((((n88 : Nat) : Int) : Int) != ((jn77 : Nat) : Int)) (J99 true H91) (HCalls
    Tryz.prog 13 [.agg #[.slice jA79 jn80 jc81, .int .i64 j82, .int .i64 j83]] H91 fun v94 H95 => ∃ x96 : Bool, v94 = .bool x96 ∧ J99 (!x96) H95)))) fun J85 => LoopF (σ := ((Option Addr × Nat × Nat) × (Int × Unit)) ×
    (((Option Addr × Nat × Nat) × (Int × (Int × Unit))) × Unit)) (((s16.1.1.1, s16.1.1.2.1, s16.1.1.2.2), (0, ())), (((s16.2.1.1.1, s16.2.1.1.2.1, s16.2.1.1.2.2), (s16.2.1.2.1, (s16.2.1.2.2.1, ()))), ())) H17 fun s46 H47
    next48 => cnd (decide ((s46.1.2.1 : Int) < ((pout_n : Nat) : Int))) (0 ≤ (s46.1.2.1 : Int) ∧ (s46.1.2.1 : Int) < ((pout_n : Nat) : Int) ∧ onPtr pout_A fun b49 o49 => ∃ x50 : Int, cl H47 b49 (o49 + (s46.1.2.1 :
    Int).toNat * 1) = some (.int .i64 x50) ∧ cnd ((((s46.1.1.2.1 : Nat) : Int) : Int) == 0) (J85 s46.1.1.1 s46.1.1.2.1 s46.1.1.2.2 s46.2.1.1.1 s46.2.1.1.2.1 s46.2.1.1.2.2 s46.2.1.2.1 s46.2.1.2.2.1 H47) ((IntKind.u64.wrap
    ((s46.1.1.2.1 : Nat) : Int) : Int) ≠ 0 ∧ jn (fun (j66 : Int) (jA67 : Option Addr) (jn68 : Nat) (jc69 : Nat) (j70 : Int) (j71 : Int) (H72 : Hp) => cnd ((j66 : Int) != 0) (Q (.bool false) H72) (0 ≤ (IntKind.i64.wrap
    (Int.tmod (IntKind.u64.wrap x50) (IntKind.u64.wrap ((s46.1.1.2.1 : Nat) : Int))) : Int) ∧ (IntKind.i64.wrap (Int.tmod (IntKind.u64.wrap x50) (IntKind.u64.wrap ((s46.1.1.2.1 : Nat) : Int))) : Int) ≤ ((s46.1.1.2.2 :
    Nat) : Int) ∧ 0 ≤ (IntKind.i64.wrap (Int.tmod (IntKind.u64.wrap x50) (IntKind.u64.wrap ((s46.1.1.2.1 : Nat) : Int))) : Int) ∧ (IntKind.i64.wrap (Int.tmod (IntKind.u64.wrap x50) (IntKind.u64.wrap ((s46.1.1.2.1 : Nat) :
    Int))) : Int) ≤ (IntKind.i64.wrap (Int.tmod (IntKind.u64.wrap x50) (IntKind.u64.wrap ((s46.1.1.2.1 : Nat) : Int))) : Int) ∧ 0 ≤ (IntKind.i64.wrap ((IntKind.i64.wrap (Int.tmod (IntKind.u64.wrap x50) (IntKind.u64.wrap
    ((s46.1.1.2.1 : Nat) : Int)))) + 1) : Int) ∧ (IntKind.i64.wrap ((IntKind.i64.wrap (Int.tmod (IntKind.u64.wrap x50) (IntKind.u64.wrap ((s46.1.1.2.1 : Nat) : Int)))) + 1) : Int) ≤ ((s46.1.1.2.1 : Nat) : Int) ∧ appendF
    H72 46 2 32 (cutA s46.1.1.1 (0 * 2) (decide (((IntKind.i64.wrap (Int.tmod (IntKind.u64.wrap x50) (IntKind.u64.wrap ((s46.1.1.2.1 : Nat) : Int))) : Int).toNat) = 0))) (((IntKind.i64.wrap (Int.tmod (IntKind.u64.wrap
    x50) (IntKind.u64.wrap ((s46.1.1.2.1 : Nat) : Int))) : Int).toNat) - 0) (((IntKind.i64.wrap (Int.tmod (IntKind.u64.wrap x50) (IntKind.u64.wrap ((s46.1.1.2.1 : Nat) : Int))) : Int).toNat) - 0) (cutA s46.1.1.1
    (((IntKind.i64.wrap ((IntKind.i64.wrap (Int.tmod (IntKind.u64.wrap x50) (IntKind.u64.wrap ((s46.1.1.2.1 : Nat) : Int)))) + 1) : Int).toNat) * 2) (decide (s46.1.1.2.2 = ((IntKind.i64.wrap ((IntKind.i64.wrap (Int.tmod
    (IntKind.u64.wrap x50) (IntKind.u64.wrap ((s46.1.1.2.1 : Nat) : Int)))) + 1) : Int).toNat)))) (s46.1.1.2.1 - ((IntKind.i64.wrap ((IntKind.i64.wrap (Int.tmod (IntKind.u64.wrap x50) (IntKind.u64.wrap ((s46.1.1.2.1 :
    Nat) : Int)))) + 1) : Int).toNat)) fun A74 n74 c74 H75 => KeepX [some (.loc 5 0), some (.v (.slice pout_A pout_n pout_c)), some (.v (.int .i64 ((pout_n : Nat) : Int)))] [] ∧ next48 (((A74, n74, c74), (IntKind.i64.wrap
    (s46.1.2.1 + 1), ())), (((jA67, jn68, jc69), (j70, (j71, ()))), ())) H75)) fun J73 => 0 ≤ (IntKind.i64.wrap (Int.tmod (IntKind.u64.wrap x50) (IntKind.u64.wrap ((s46.1.1.2.1 : Nat) : Int))) : Int) ∧ (IntKind.i64.wrap
    (Int.tmod (IntKind.u64.wrap x50) (IntKind.u64.wrap ((s46.1.1.2.1 : Nat) : Int))) : Int) < ((s46.1.1.2.1 : Nat) : Int) ∧ onPtr s46.1.1.1 fun b51 o51 => ∃ (A52 : Option Addr) (n52 c52 : Nat), cl H47 b51 (o51 +
    (IntKind.i64.wrap (Int.tmod (IntKind.u64.wrap x50) (IntKind.u64.wrap ((s46.1.1.2.1 : Nat) : Int))) : Int).toNat * 2) = some (.slice A52 n52 c52) ∧ ∃ x53 : Int, cl H47 b51 ((o51 + (IntKind.i64.wrap (Int.tmod
    (IntKind.u64.wrap x50) (IntKind.u64.wrap ((s46.1.1.2.1 : Nat) : Int))) : Int).toNat * 2) + 1) = some (.int .i64 x53) ∧ (HCalls Tryz.prog 28 [.agg #[.slice s46.2.1.1.1 s46.2.1.1.2.1 s46.2.1.1.2.2, .int .i64
    s46.2.1.2.1, .int .i64 s46.2.1.2.2.1], .agg #[.slice A52 n52 c52, .int .i64 x53]] H47 fun v54 H55 => ∃ (A56 : Option Addr) (n56 c56 : Nat), ∃ x57 : Int, ∃ x58 : Int, ∃ x59 : Int, v54 = .tuple #[.agg #[.slice A56 n56
    c56, .int .i64 x57, .int .i64 x58], .int .i64 x59] ∧ J73 x59 A56 n56 c56 x57 x58 H55) ∧ (HCalls Tryz.prog 28 [.agg #[.slice s46.2.1.1.1 s46.2.1.1.2.1 s46.2.1.1.2.2, .int .i64 s46.2.1.2.1, .int .i64 s46.2.1.2.2.1],
    .agg #[.slice A52 n52 c52, .int .i64 x53]] H47 fun v60 H61 => ∃ (A62 : Option Addr) (n62 c62 : Nat), ∃ x63 : Int, ∃ x64 : Int, ∃ x65 : Int, v60 = .tuple #[.agg #[.slice A62 n62 c62, .int .i64 x63, .int .i64 x64], .int
    .i64 x65] ∧ J73 x65 A62 n62 c62 x63 x64 H61))) (J85 s46.1.1.1 s46.1.1.2.1 s46.1.1.2.2 s46.2.1.1.1 s46.2.1.1.2.1 s46.2.1.1.2.2 s46.2.1.2.1 s46.2.1.2.2.1 H47))))) fun J6 => cnd (decide ((((pl_n : Nat) : Int) : Int) >
    350)) (J6 true H) (cnd (decide ((((pout_n : Nat) : Int) : Int) > 350)) (J6 true H) (HCalls Tryz.prog 30 [.slice pl_A pl_n pl_c] H fun v1 H2 => ∃ x3 : Bool, v1 = .bool x3 ∧ J6 (!x3) H2))
noncomputable def fcx7 : Cx := cx 197 [(5, true), (9, true), (10, true), (15, true), (22, true)] [(8, ⟨[1, 5, 49, 50], [], [(7, .slice), (51, .int .i64)], [(5, [.slice, .int .i64, .int .i64])]⟩), (18, ⟨[5, 77, 78], [], [(7, .slice), (79, .int .i64)], [(5, [.slice, .int .i64, .int .i64])]⟩), (33, ⟨[5, 17, 19, 143, 144], [5], [(145, .int .i64)], []⟩), (38, ⟨[5, 17, 19, 22, 24, 143, 144, 145, 156, 157], [5, 22], [(25, .bool), (158, .int .i64)], []⟩), (47, ⟨[17, 19, 178], [], [(28, .int .i64), (179, .int .i64)], []⟩)] [(22, (.look 0 (.look 1 (.look 2 (.look 3 (.look 4 (.act 5 (.look 6 (.look 7 (.look 8 (.act 9 (.act 10 (.act 11 .done .done) .done) .done)))) (.act 9 (.act 5 (.look 6 (.look 7 (.look 8 (.act 10 (.act 11 .done .done) .done)))) .done) .done)))))))), (25, (.look 0 (.look 1 (.look 2 (.look 3 (.look 4 (.look 5 (.look 6 (.look 7 (.act 8 (.act 9 .done .done) .done))))))))))] []
theorem f7.eq (pl_A : Option Addr) (pl_n pl_c : Nat) (pout_A : Option Addr) (pout_n pout_c : Nat) (H : Hp) (Q : Value → Hp → Prop) : f7 pl_A pl_n pl_c pout_A pout_n pout_c H Q = wFun fcx7 Tryz.f7 [.slice pl_A pl_n pl_c, .slice pout_A pout_n pout_c] H Q := by kernel_rfl
theorem f7.ok (pl_A : Option Addr) (pl_n pl_c : Nat) (pout_A : Option Addr) (pout_n pout_c : Nat) {H : Hp} {Q : Value → Hp → Prop} (h : f7 pl_A pl_n pl_c pout_A pout_n pout_c H Q) : HCalls Tryz.prog 7 [.slice pl_A pl_n pl_c, .slice pout_A pout_n pout_c] H Q := hcalls_of (cxOk _ _ _ _ _) Tryz.func7 (Eq.mp (f7.eq pl_A pl_n pl_c pout_A pout_n pout_c H Q) h)

end Go.Proofs.YtmelbipidffmpaaGreatDoor.Hw

/- TreeGrows, walked. -/
set_option linter.unusedVariables false
set_option linter.unusedSimpArgs false
set_option linter.unusedSectionVars false
set_option maxRecDepth 20000
namespace Go.Proofs.YtmelbipidffmpaaGreatDoor.Hw
open Go Go.Proofs
/-- Which one is taken out. -/
theorem mod_idx (x : Int) {n : Nat} (h0 : 0 < n) (hn : n ≤ 350) : IntKind.u64.wrap ((n : Nat) : Int) ≠ 0 ∧ ∃ k : Nat, k < n ∧ IntKind.i64.wrap (Int.tmod (IntKind.u64.wrap x) (IntKind.u64.wrap ((n : Nat) : Int))) = (k : Int) := by
  have e1 : IntKind.u64.wrap ((n : Nat) : Int) = (n : Int) := by
    unfold IntKind.wrap
    simp [IntKind.bits, IntKind.signed]
    omega
  have e2 : 0 ≤ IntKind.u64.wrap x := by
    unfold IntKind.wrap
    simp [IntKind.bits, IntKind.signed]
    omega
  rw [e1]
  refine ⟨by omega, ?_⟩
  have e3 : Int.tmod (IntKind.u64.wrap x) (n : Int) = IntKind.u64.wrap x % (n : Int) := Int.tmod_eq_emod_of_nonneg e2
  rw [e3]
  have h1 := Int.emod_nonneg (IntKind.u64.wrap x) (b := (n : Int)) (by omega)
  have h2 := Int.emod_lt_of_pos (IntKind.u64.wrap x) (b := (n : Int)) (by omega)
  refine ⟨(IntKind.u64.wrap x % (n : Int)).toNat, by omega, ?_⟩
  rw [wrap_id (by omega) (by omega)]
  omega
/-- What is left, and the tree that has it. -/
structure G2 (H H' : Hp) (A : Option Addr) (c : Nat) (hv : List EnM) (Ta : Option Addr) (bl : List NdM) (lt : List EnM) (dep : Int) : Prop where
  xH : Ext H H'
  sl : SlAt enC H' A hv.length hv
  cap : hv.length ≤ c
  out : OutT H' Ta bl 1 lt dep
  perm : (lt.map sayE).Perm (hv.map sayE)
  key : ∀ e ∈ hv, KeyAt H e
theorem G2.len {H H' : Hp} {A Ta : Option Addr} {c : Nat} {hv lt : List EnM} {bl : List NdM} {dep : Int} (G : G2 H H' A c hv Ta bl lt dep) : lt.length = hv.length := by have := G.perm.length_eq; simpa using this
theorem G2.has {H H' : Hp} {A Ta : Option Addr} {c : Nat} {hv lt : List EnM} {bl : List NdM} {dep : Int} (G : G2 H H' A c hv Ta bl lt dep) {e : EnM} (he : e ∈ hv) : ∃ x ∈ lt, sayE x = sayE e := List.mem_map.1 (G.perm.mem_iff.2 (List.mem_map_of_mem he))
theorem G2.ent {H H' : Hp} {A Ta : Option Addr} {c : Nat} {hv lt : List EnM} {bl : List NdM} {dep : Int} (G : G2 H H' A c hv Ta bl lt dep) {e : EnM} (he : e ∈ hv) : entB 1 e = true := by
  obtain ⟨x, hx, hxe⟩ := G.has he
  obtain ⟨S, s1, s2⟩ := G.out.good
  obtain ⟨_, hgd, _⟩ := tree_of s1
  rw [← ent_say hxe]
  exact good_ent hgd x (by rw [s2]; exact hx)
section
variable {H : Hp} {A oA : Option Addr} {n c on oc : Nat} {l : List EnM} {out : List Int} {Q : Value → Hp → Prop}
/-- One entry taken out. -/
theorem g28 {H' : Hp} {A Ta : Option Addr} {c Tc : Nat} {hv lt : List EnM} {bl : List NdM} {dep : Int} {e : EnM} {k : Nat} (N : NullAt H) (G : G2 H H' A c hv Ta bl lt dep) (hle : hv.length ≤ 350) (hk : hv[k]? = some e)
    (hq : ∀ Ta2 Tc2 bl2 lt2 dep2 H72, Ext H' H72 → OutT H72 Ta2 bl2 1 lt2 dep2 → (lt2.map sayE).Perm ((hv.take k ++ hv.drop (k + 1)).map sayE) → Q (.tuple #[.agg #[.slice Ta2 bl2.length Tc2, .int .i64 0, .int .i64 1], .int .i64 0]) H72) :
    HCalls Tryz.prog 28 [.agg #[.slice Ta bl.length Tc, .int .i64 0, .int .i64 1], enA e] H' Q := by
  have he := List.mem_of_getElem? hk
  obtain ⟨S, s1, s2⟩ := G.out.good
  obtain ⟨x, hx, hxe⟩ := G.has he
  have hsrt := G.out.srt
  have hc : delCode (treeV bl 0 1) 1 e = 0 := by
    rw [s1]
    unfold delCode
    simp only [G.ent he, if_true, s2, has_say hsrt hx hxe]
  have hlen := G.len
  refine c28 (N.ext G.xH) G.out.tr G.out.few ((G.key e he).ext G.xH) (fun S' h' => by rw [s1] at h'; cases h'; rw [s2]; omega) (fun h => absurd hc h) fun S' hS' _ H72 Ta2 Tc2 bl2 lt2 dep2 x72 O2 hsay => hq Ta2 Tc2 bl2 lt2 dep2 H72 x72 O2 ?_
  rw [s1] at hS'
  cases hS'
  rw [s2] at hsay
  exact take_perm hsrt G.perm hk hsay
theorem c7 (N : NullAt H) (hl : EsAt H A n l) (hO : SlAt inC H oA on out) (hq : ∀ H', Ext H H' → Q (.bool true) H') : HCalls Tryz.prog 7 [.slice A n c, .slice oA on oc] H Q := by
  refine f7.ok _ _ _ _ _ _ ?_
  unfold f7
  obtain rfl := hl.sl.len
  obtain rfl := hO.len
  refine jn_intro (fun J => J true H ∧ (l.length ≤ 350 → out.length ≤ 350 → J false H)) ⟨cndT rfl (c10 H _ N fun H' hx => ⟨_, rfl, hq H' hx⟩), fun hl350 ho350 => cndF rfl ?_⟩ fun J hJ => cndI (fun h => hJ.1) fun h => cndI (fun h2 => hJ.1) fun h2 => c30 hl fun b hb => ⟨_, rfl, ?_⟩
  rotate_left
  · have h := of_decide_eq_false h
    have h2 := of_decide_eq_false h2
    cases b with
    | true => exact hJ.2 (by omega) (by omega)
    | false => exact hJ.1
  refine c33 (cols := 1) (fun h => absurd (by omega) h) fun _ H11 A12 c12 bl0 x11 O11 => ⟨_, _, _, _, _, _, rfl, cndF rfl ?_⟩
  refine loop_to l.length (fun i st H' => ∃ A' c' hv Ta Tc bl lt dep X, st = (((A', hv.length, c'), ((i : Int), ())), (((Ta, bl.length, Tc), (0, (1, ()))), ())) ∧ G1 H H' X A' c' hv Ta bl lt dep ∧ hv.length ≤ i)
    ⟨none, 0, [], A12, c12, bl0, [], 1, H11, rfl, ⟨x11, Ext.refl _, Row.nil, fun b ⟨_, _, hh⟩ => (by cases hh), O11, List.Perm.refl _, fun e he => by cases he⟩, Nat.le_refl _⟩ ?_
  rintro i st H17 next hi ⟨A', c', hv, Ta, Tc, bl, lt, dep, X, rfl, G, hle⟩ hnext
  dsimp only
  have xH17 := G.xX.trans G.xH
  refine cndI (fun hlt => ?_) fun hlt => ?_
  · have hlt := of_decide_eq_true hlt
    obtain ⟨x, hx⟩ := get_of (l := l) (i := i) (by omega)
    have hKx := hl.key x (List.mem_of_getElem? hx)
    refine jn_intro (fun J => ∀ A2 c2 hv2 Ta2 Tc2 bl2 lt2 dep2 X2 H2, G1 H H2 X2 A2 c2 hv2 Ta2 bl2 lt2 dep2 → hv2.length ≤ i + 1 → J A2 hv2.length c2 Ta2 bl2.length Tc2 0 1 H2) (fun A2 c2 hv2 Ta2 Tc2 bl2 lt2 dep2 X2 H2 g1 g2 => ⟨rfl, hnext _ _ (by omega) ⟨A2, c2, hv2, Ta2, Tc2, bl2, lt2, dep2, X2, by rw [wrap_id (by omega) (by omega)]; rfl, g1, g2⟩⟩) fun J hJ => ⟨by omega, by omega, rd_en (hl.sl.ext xH17) hx fun q o _ k1 k2 => ⟨_, _, _, by simpa using k1, _, by simpa using k2, ?_⟩⟩
    refine jn_intro (fun J25 => ∀ e : EnM, KeyAt H e → e.id = x.id → J25 e.A e.key.length e.c) (fun e hKe hid => ?_) fun J25 hJ25 => cndI (fun hb => ?_) fun hb => hJ25 x hKx rfl
    rotate_left
    · have hb := of_decide_eq_true hb
      have hcap := hKx.cap
      have hl1 : (x.key.take 1).length = 1 := by rw [List.length_take]; omega
      have this : J25 x.A (x.key.take 1).length 1 := hJ25 ⟨x.A, 1, x.key.take 1, x.id⟩ (cut_key hKx (by omega)) rfl
      rw [hl1] at this
      refine ⟨by omega, by omega, by omega, by omega, ?_⟩
      rw [cut_zero]
      exact this
    rw [← hid]
    obtain ⟨S, s1, s2⟩ := G.out.good
    have hin : HCalls Tryz.prog 25 [.agg #[.slice Ta bl.length Tc, .int .i64 0, .int .i64 1], enA e] X (fun v H1 => Ext X H1 ∧ ((∃ cd : Int, cd ≠ 0 ∧ v = .tuple #[.agg #[.slice none 0 0, .int .i64 0, .int .i64 0], .int .i64 cd]) ∨ ∃ A2 c2 bl2 lt2 dep2, OutT H1 A2 bl2 1 lt2 dep2 ∧ PutS lt e lt2 ∧ v = .tuple #[.agg #[.slice A2 bl2.length c2, .int .i64 0, .int .i64 1], .int .i64 0])) :=
      c25 (N.ext G.xX) G.out.tr G.out.few (hKe.ext G.xX) (fun h0 H1 x1 => ⟨x1, .inl ⟨_, h0, rfl⟩⟩) (fun S' hS' _ H1 A2 c2 bl2 lt2 dep2 x1 O2 P2 => ⟨x1, .inr ⟨A2, c2, bl2, lt2, dep2, O2, by rw [s1] at hS'; cases hS'; rw [s2] at P2; exact P2, rfl⟩⟩)
    refine (HCalls.part hin G.xH).mono fun v H27 ⟨H1, ⟨xX1, hc⟩, x1, hb⟩ => ?_
    have hrow : ∀ b, rowB A' b → H1 b = none ∧ H27 b = H17 b := fun b hb' => hb b (G.hid b hb') (Row.lt G.row hb').1
    have R27 : Row H H27 A' hv.length c' 2 (hv.flatMap enC) := Row.keep G.row fun b hb' => (hrow b hb').2
    rcases hc with ⟨cd, h0, rfl⟩ | ⟨A2, c2, bl2, lt2, dep2, O2, P2, rfl⟩
    · exact ⟨_, _, _, _, _, _, rfl, cndT (by simpa using h0) (hJ A' c' hv Ta Tc bl lt dep H1 H27 ⟨G.xX.trans xX1, x1, R27, fun b hb' => (hrow b hb').1, G.out.ext2 xX1, G.perm, G.key⟩ (by omega))⟩
    · refine ⟨_, _, _, _, _, _, rfl, cndF rfl fun g32 hg32 => ?_⟩
      refine Row.push1 (w := e) enC_len enC_one (by omega) R27 (G.xX.trans (xX1.trans x1)) (by unfold big; omega) hg32 fun A34 c34 H35 R35 x35 ch nw => hJ A34 c34 (hv ++ [e]) A2 c2 bl2 lt2 dep2 H1 H35 ⟨G.xX.trans xX1, fun b o hb1 => ?_, R35, fun b hb' => ?_, O2, ?_, fun z hz => ?_⟩ (by simp; omega)
      · have h27 := x1 b o hb1
        by_cases e1 : H35 b = H27 b
        · rw [e1]; exact h27
        · rcases ch b e1 with h | h
          · rw [(hrow b h).1] at hb1; cases hb1
          · rw [h] at h27; cases h27
      · rcases nw b hb' with h | h
        · exact (hrow b h).1
        · exact x1.none h
      · rw [List.map_append]
        exact (put_perm P2).trans ((G.perm.cons _).trans (List.perm_append_comm (l₁ := [sayE e])))
      · rcases List.mem_append.1 hz with hz | hz
        · exact G.key z hz
        · rw [List.mem_singleton] at hz; subst hz; exact hKe
  have hlt := of_decide_eq_false hlt
  have G' : G2 H H17 A' c' hv Ta bl lt dep := ⟨xH17, ⟨rfl, Row.cells G.row, by unfold huge; omega⟩, G.row.2.1, G.out.ext2 G.xH, G.perm, G.key⟩
  have hle' : hv.length ≤ 350 := by omega
  clear hlt hnext
  refine jn_intro (fun J => ∀ A2 c2 hv2 Ta2 Tc2 bl2 lt2 dep2 H2, G2 H H2 A2 c2 hv2 Ta2 bl2 lt2 dep2 → hv2.length ≤ 350 → J A2 hv2.length c2 Ta2 bl2.length Tc2 0 1 H2) (fun A2 c2 hv2 Ta2 Tc2 bl2 lt2 dep2 H84 G3 h3 => ?_) fun J85 hJ85 => ?_
  rotate_left
  · refine loop_to out.length (fun i st H' => ∃ A2 c2 hv2 Ta2 Tc2 bl2 lt2 dep2, st = (((A2, hv2.length, c2), ((i : Int), ())), (((Ta2, bl2.length, Tc2), (0, (1, ()))), ())) ∧ G2 H H' A2 c2 hv2 Ta2 bl2 lt2 dep2 ∧ hv2.length ≤ 350) ⟨A', c', hv, Ta, Tc, bl, lt, dep, rfl, G', hle'⟩ ?_
    rintro j st H47 next48 hj ⟨A2, c2, hv2, Ta2, Tc2, bl2, lt2, dep2, rfl, G3, h3⟩ hnext48
    dsimp only
    refine cndI (fun hlt => ?_) fun hlt => hJ85 A2 c2 hv2 Ta2 Tc2 bl2 lt2 dep2 H47 G3 h3
    have hlt := of_decide_eq_true hlt
    obtain ⟨x, hx⟩ := get_of (l := out) (i := j) (by omega)
    refine ⟨by omega, by omega, rd_in (hO.ext G3.xH) hx fun q o _ kc => ⟨x, by simpa using kc, cndI (fun h0 => hJ85 A2 c2 hv2 Ta2 Tc2 bl2 lt2 dep2 H47 G3 h3) fun h0 => ?_⟩⟩
    have h0 : hv2.length ≠ 0 := by have : ((hv2.length : Nat) : Int) ≠ 0 := by simpa using h0
                                   omega
    obtain ⟨hw, k, hk, hm⟩ := mod_idx x (n := hv2.length) (by omega) h3
    have ew : IntKind.i64.wrap (((k : Nat) : Int) + 1) = ((k + 1 : Nat) : Int) := by rw [wrap_id (by omega) (by omega)]; omega
    refine ⟨hw, ?_⟩
    rw [hm, ew]
    obtain ⟨e, he⟩ := get_of (l := hv2) (i := k) hk
    have hcap := G3.cap
    refine jn_intro (fun J => ∀ Ta3 Tc3 bl3 lt3 dep3 H72, Ext H47 H72 → OutT H72 Ta3 bl3 1 lt3 dep3 → (lt3.map sayE).Perm ((hv2.take k ++ hv2.drop (k + 1)).map sayE) → J 0 Ta3 bl3.length Tc3 0 1 H72) (fun Ta3 Tc3 bl3 lt3 dep3 H72 x72 O3 p3 => cndF rfl ⟨by omega, by omega, by omega, by omega, by omega, by omega, ?_⟩) fun J hJ => ⟨by omega, by omega, rd_en G3.sl he fun q o _ k1 k2 => ⟨_, _, _, by simpa using k1, _, by simpa using k2, g28 N G3 h3 he fun Ta3 Tc3 bl3 lt3 dep3 H72 x72 O3 p3 => ⟨_, _, _, _, _, _, rfl, hJ Ta3 Tc3 bl3 lt3 dep3 H72 x72 O3 p3⟩, g28 N G3 h3 he fun Ta3 Tc3 bl3 lt3 dep3 H72 x72 O3 p3 => ⟨_, _, _, _, _, _, rfl, hJ Ta3 Tc3 bl3 lt3 dep3 H72 x72 O3 p3⟩⟩⟩
    simp only [Int.toNat_natCast, cut_zero, Nat.sub_zero]
    have hA2 := (sl_take (m := k) enC_len G3.sl (by omega)).ext x72
    have hB2 := (sl_drop (p := k + 1) enC_len G3.sl hcap (by omega)).ext x72
    have hnl : (hv2.take k ++ hv2.drop (k + 1)).length = k + (hv2.length - (k + 1)) := by simp; omega
    refine appendF_slx enC_len enC_one (by omega) hA2 hB2 (by omega) (Nat.le_refl _) (by unfold big; omega) fun A74 c74 H75 x75 s75 hc75 _ => ⟨rfl, hnext48 _ _ (by omega) ⟨A74, c74, hv2.take k ++ hv2.drop (k + 1), Ta3, Tc3, bl3, lt3, dep3, ?_, ⟨G3.xH.trans (x72.trans x75), ?_, ?_, O3.ext2 x75, p3, fun z hz => ?_⟩, by omega⟩⟩
    · rw [wrap_id (by omega) (by omega), hnl]; rfl
    · rw [hnl]; exact s75
    · rw [hnl]; exact hc75
    · rcases List.mem_append.1 hz with hz | hz
      · exact G3.key z (List.mem_of_mem_take hz)
      · exact G3.key z (List.mem_of_mem_drop hz)
  have hlen := G3.len
  have N84 := N.ext G3.xH
  obtain ⟨S, s1, s2⟩ := G3.out.good
  obtain ⟨_, hgd, h, t, a1, a2, a3, a4, a5⟩ := tree_of s1
  have hd : depT (treeV bl2 0 1) = ((((1 + h : Nat) : Nat) : Int), 0) := by
    rw [s1]
    show (S.leaf, (0 : Int)) = _
    rw [a4]; simp
  refine w11 N84 G3.out fun A88 c88 H87 x87 => ⟨_, _, _, _, rfl, ?_⟩
  refine c16 (N84.ext x87) (G3.out.ext2 x87).tr G3.out.few ?_
  rw [hd]
  intro H91 x91
  refine ⟨_, _, rfl, ?_⟩
  have y91 := x87.trans x91
  refine jn_intro (fun J => ∀ H98, Ext H91 H98 → J false H98) (fun H98 x98 => cndF rfl ?_) fun J hJ => cndF rfl (cndF rfl (cndF (by simp [hlen]) (w13 (N84.ext y91) (G3.out.ext2 y91) fun H95 x95 => ⟨_, rfl, hJ H95 x95⟩)))
  have y98 := y91.trans x98
  have hsz : ∀ key : List Vl, (betw S.out key key).length < big := fun key => by
    have h1 := betw_len (l := S.out) (low := key) (high := key)
    rw [s2] at h1
    rw [s2]
    unfold big; omega
  refine loop_to hv2.length (fun j st H' => st = (((j : Int), ()), ()) ∧ Ext H98 H') ⟨rfl, Ext.refl _⟩ ?_
  rintro j st H101 next102 hj ⟨rfl, x101⟩ hnext102
  dsimp only
  have y101 := y98.trans x101
  refine cndI (fun hlt => ?_) fun hlt => ?_
  · have hlt := of_decide_eq_true hlt
    obtain ⟨e, he⟩ := get_of (l := hv2) (i := j) (by omega)
    have hem := List.mem_of_getElem? he
    have hent := G3.ent hem
    obtain ⟨hk1, hkv⟩ := ent_len hent
    obtain ⟨y, hy, hye⟩ := G3.has hem
    have hfind : e.id ∈ betw S.out e.key e.key := find_has (by rw [s2]; exact hy) hye
    refine ⟨by omega, by omega, rd_en (G3.sl.ext y101) he fun q o _ k1 k2 => ⟨_, _, _, by simpa using k1, _, by simpa using k2, ?_⟩⟩
    refine w20 (ids := betw S.out e.key e.key) (N84.ext y101) (G3.out.ext2 y101).tr G3.out.few (((G3.key e hem).ext (G3.xH.trans y101)).sl) (find_is s1 (by omega) hkv) (hsz _) fun A108 c108 H107 x107 s108 => ⟨_, _, _, _, rfl, ?_⟩
    obtain ⟨ids, hids⟩ : ∃ ids, ids = betw S.out e.key e.key := ⟨_, rfl⟩
    rw [← hids] at hfind s108 ⊢
    have hisz : ids.length < big := by rw [hids]; exact hsz _
    unfold big at hisz
    refine loop_to ids.length (fun m st H' => st = ((((ids.take m).any fun y => y == e.id), ((m : Int), ())), ()) ∧ H' = H107) ⟨rfl, rfl⟩ ?_
    rintro m st H111 next112 hm ⟨rfl, rfl⟩ hnext112
    dsimp only
    refine cndI (fun hlt2 => ?_) fun hlt2 => ?_
    · have hlt2 := of_decide_eq_true hlt2
      obtain ⟨z, hz⟩ := get_of (l := ids) (i := m) (by omega)
      have hts := any_take_succ (g := fun y => y == e.id) hz
      refine jn_intro (fun J => J ((ids.take (m + 1)).any fun y => y == e.id)) ⟨rfl, hnext112 _ _ (by omega) ⟨by rw [wrap_id (by omega) (by omega)]; rfl, rfl⟩⟩ fun J hJ => ⟨by omega, by omega, rd_in s108 hz fun q o _ kc => ⟨z, by simpa using kc, cndI (fun hb => ?_) fun hb => ?_⟩⟩
      · rw [hts, hb, Bool.true_or] at hJ; exact hJ
      · rw [hts, hb, Bool.false_or] at hJ; exact hJ
    · have hlt2 := of_decide_eq_false hlt2
      have hmi : m = ids.length := by omega
      subst hmi
      rw [List.take_length]
      have hany : (ids.any fun y => y == e.id) = true := List.any_eq_true.2 ⟨e.id, hfind, by simp⟩
      rw [hany]
      exact jn_intro (fun J => J false) (cndF rfl ⟨rfl, hnext102 _ _ (by omega) ⟨by rw [wrap_id (by omega) (by omega)]; rfl, x101.trans x107⟩⟩) fun J hJ => cndF rfl hJ
  have hlt := of_decide_eq_false hlt
  have hout : S.out.length = hv2.length := by rw [s2]; exact hlen
  have hpow : h ≠ 0 → 2 * 4 ^ h ≤ hv2.length + 1 := fun h0 => by
    obtain ⟨g, rfl⟩ : ∃ g, h = g + 1 := ⟨h - 1, by omega⟩
    have := full_true a2
    rw [← a3, hout] at this
    exact this
  have hh : h ≤ 350 := by
    by_cases h0 : h = 0
    · omega
    · have h1 := hpow h0
      have h2 : h < 4 ^ h := Nat.lt_pow_self (by omega)
      omega
  have eh : IntKind.i64.wrap ((((1 + h : Nat) : Nat) : Int) - 1) = ((h : Nat) : Int) := by rw [wrap_id (by omega) (by omega)]; omega
  rw [eh]
  have final : ∀ H120, Ext H98 H120 → HCalls Tryz.prog 10 [] H120 fun v H' => ∃ x : Bool, v = .bool x ∧ Q (.bool x) H' := fun H120 x120 => c10 H120 _ (N84.ext (y98.trans x120)) fun H' hx => ⟨_, rfl, hq H' (G3.xH.trans (y98.trans (x120.trans hx)))⟩
  refine loop_to h (fun i st H' => st = ((((4 ^ i : Nat) : Int), ((i : Int), ())), ()) ∧ H' = H101) ⟨rfl, rfl⟩ ?_
  rintro i st H120 next121 hi2 ⟨rfl, rfl⟩ hnext121
  dsimp only
  have hpi : h ≠ 0 → 4 ^ i ≤ 4 ^ h := fun _ => Nat.pow_le_pow_right (by omega) hi2
  refine cndI (fun hlt3 => ?_) fun hlt3 => ?_
  · have hlt3 := of_decide_eq_true hlt3
    have h1 := hpow (by omega)
    have h2 := hpi (by omega)
    have e4 : IntKind.i64.wrap (((4 ^ i : Nat) : Int) * 4) = ((4 ^ (i + 1) : Nat) : Int) := by
      obtain ⟨r, hr⟩ : ∃ r : Nat, r = 4 ^ h := ⟨_, rfl⟩
      obtain ⟨p, hp⟩ : ∃ p : Nat, p = 4 ^ i := ⟨_, rfl⟩
      rw [← hr] at h1 h2
      rw [← hp] at h2
      rw [Nat.pow_succ, ← hp, wrap_id (by omega) (by omega)]; omega
    refine ⟨rfl, hnext121 _ _ (by omega) ⟨?_, rfl⟩⟩
    rw [e4, wrap_id (by omega) (by omega)]; rfl
  · have hlt3 := of_decide_eq_false hlt3
    have hih : i = h := by omega
    subst hih
    refine jn_intro (fun J => ∀ H', Ext H H' → J true H') (fun H' hx => hq H' hx) fun J hJ => ?_
    have aw : HCalls Tryz.prog 10 [] H120 fun v H' => ∃ x : Bool, v = .bool x ∧ J x H' := c10 H120 _ (N84.ext (y98.trans x101)) fun H' hx => ⟨_, rfl, hJ H' (G3.xH.trans (y98.trans (x101.trans hx)))⟩
    refine cndI (fun h1 => aw) fun h1 => cndI (fun h2 => aw) fun h2 => ?_
    exfalso
    have hi0 : i ≠ 0 := fun e => by subst e; exact absurd h1 (by decide)
    have h3 := hpow hi0
    have h2 := of_decide_eq_false h2
    obtain ⟨p, hp⟩ : ∃ p : Nat, p = 4 ^ i := ⟨_, rfl⟩
    rw [← hp] at h2 h3
    rw [wrap_id (x := 2 * ((p : Nat) : Int)) (by omega) (by omega), wrap_id (by omega) (by omega)] at h2
    omega
end
end Go.Proofs.YtmelbipidffmpaaGreatDoor.Hw

/- The row TreeGrows and its card: for every started Os and all arguments of the statement's domain the function returns true. No condition. -/
set_option linter.unusedVariables false
set_option linter.unusedSimpArgs false
set_option maxRecDepth 100000
namespace Go.Proofs.YtmelbipidffmpaaGreatDoor
open Go.ChangeShapes Go.WideShapes Go.ChangeAt Go.RowKit
open Hw
theorem grows_lifted (os : Os) (started : os.Started) (H : Type) (enc : TypeId × Value → H) :
    ReturnsInHanded {} Tryz.checked os 7 .any (fun w args => (Rows.treeGrowsSpec.pre enc Tryz.prog Tryz.f7 Rows.treeGrowsRow.domain false w args ∧ laidMet Tryz.prog Rows.treeGrowsRow.laid w) ∧ sizedMet enc Tryz.prog Tryz.f7 (OpenSpec.ofChange Rows.treeGrowsSpec) false w args)
      (Rows.treeGrowsSpec.post enc Tryz.prog Tryz.f7 Rows.treeGrowsRow.apart Rows.treeGrowsRow.fresh Rows.treeGrowsRow.handsOn Rows.treeGrowsRow.again) := by
  refine returnsInHanded_of_change_and (C := Tryz.checked) (X := fun w _ => laidMet Tryz.prog theLaid w) (fun _ _ _ hh h => h.of_heap hh) ownK started (by kernel_rfl) Tryz.func7
    (ChangeSpec.witness_at (enc := enc) (C := Tryz.checked) (os := os) (X := fun w _ => laidMet Tryz.prog theLaid w) false (World.holding Tryz.prog os ⟨#[], #[], []⟩) #[.slice none 0 0, .slice none 0 0] 8 rfl (by kernel_rfl) (by kernel_rfl) (by kernel_rfl) (by kernel_rfl) (by kernel_rfl) (laid_met os _)) ?_
  intro W base args ds gs before hval0 hW hcnd hsz0 hL _
  have hval : ∀ (j : Nat) t v, Tryz.f7.params[j]? = some t → args[j]? = some v → Value.okWide Tryz.prog W .any base t v := hval0
  have hsz : (DataW.weightsEach Tryz.prog (Tryz.f7.params.toList ++ Rows.treeGrowsSpec.plain.varTypes Tryz.prog) (ds ++ gs)).all (· ≤ reachBytes) = true := hsz0
  have hW' := hW
  obtain ⟨p, q, hA0, hV, rfl, hfz, hnd⟩ := hW
  have hA : DataW.TrodAll enc Tryz.prog W 0 (fun _ => true) true Tryz.f7.params.toList args.toList ds p := hA0
  rw [Tryz.params7] at hA hval hsz
  obtain ⟨v0, v1, d0, d1, p0, p1, rfl, rfl, rfl, h0, h1⟩ := trodAll_two hA
  obtain ⟨rfl, rfl⟩ := trodVars_none hV
  have hs0 : Sz Tryz.prog 28 d0 := fun n hn => by
    have := List.all_eq_true.1 hsz n (DataW.weights_mem_each (j := 0) rfl rfl n hn)
    exact of_decide_eq_true this
  have hs1 : Sz Tryz.prog 37 d1 := fun n hn => by
    have := List.all_eq_true.1 hsz n (DataW.weights_mem_each (j := 1) rfl rfl n hn)
    exact of_decide_eq_true this
  obtain ⟨fl0, e0⟩ := h0
  obtain ⟨fl1, e1⟩ := h1
  obtain ⟨A, n, c, l, hc0, hE, hK, _, _⟩ := open_ents hs0 e0
  obtain ⟨oA, on, oc, out, hc1, hO⟩ := open_nums u37 hs1 e1
  have g0 := slice_of u28 (hval 0 28 v0 rfl rfl) hc0
  have g1 := slice_of u37 (hval 1 37 v1 rfl rfl) hc1
  subst g0
  subst g1
  have key := c7 (c := c) (oc := oc) (Q := fun v H' => v = .bool true ∧ Ext (hpOf W) H') (null_of_laid hL) ⟨hE, hK⟩ hO (fun H' hx => ⟨rfl, hx⟩) W (fun b o h => h)
  refine Calls.mono key ?_
  rintro e W' ⟨v, H', rfl, ⟨rfl, hx⟩, hh, hf, _⟩
  refine ⟨_, rfl, post_look (f := Tryz.f7) cellsB_prog (by rw [Tryz.params7]; decide) hW' rfl rfl rfl (fun b sp hd => ?_) (fun b o h => hh b o (hx b o h)) hf.1 hf.2.2.1 ?_⟩
  · exact res_bool b sp hd true
  · exact ok_bools rfl true
theorem grows_row : Rows.TreeGrowsSaid :=
  OpenClaim.holds_of_wide 7 Tryz.f7 rfl rfl rfl rfl rfl rfl rfl ⟨rfl, rfl, rfl, rfl, rfl⟩ rfl rfl rfl rfl rfl (by kernel_rfl) Tryz.func7 (by kernel_rfl)
    (of_decide_eq_true (by kernel_rfl)) (by unfold Func.isWrapper; first | (rw [if_pos (by decide +kernel)]; kernel_rfl) | (rw [if_neg (by decide +kernel)]; exact ⟨rfl, rfl⟩))
    (fun os started H enc _ => grows_lifted os started H enc)
theorem wants28c : Tryz.prog.wantsStandIn 28 = false := by kernel_rfl
theorem wants37 : Tryz.prog.wantsStandIn 37 = false := by kernel_rfl
theorem grows_card : Rows.TreeGrowsCardSaid :=
  Claim7.holds_tied_plain_at .later [] [.data] true (true, "23305348b4ba4c31fb5a626f45f9e6925a27ab1b066bd0b37f3c06df2b996abf") false
    grows_row (fun _ h => by cases h) (by kernel_rfl) (fun _ h => by cases h) treeGrows_row_tie rfl ⟨rfl, rfl⟩ (by kernel_rfl) rfl
    (fun f fn hf hfn => by
      obtain rfl : f = 7 := Option.some.inj ((show Tryz.prog.funcNamed "justiciar/justiciarlaw17.TreeGrows" = some 7 by kernel_rfl).symm.trans hf) |>.symm
      obtain rfl : fn = Tryz.f7 := (Option.some.inj (Tryz.func7.symm.trans hfn)).symm
      exact ⟨by kernel_rfl, fun j t ht => by
        rw [Tryz.params7] at ht
        rcases j with _ | _ | j
        · cases (Option.some.inj ht); exact wants28c
        · cases (Option.some.inj ht); exact wants37
        · simp at ht⟩)
    (by kernel_rfl)
end Go.Proofs.YtmelbipidffmpaaGreatDoor

/- The cards of TreeMakes and TreeGrows: for every started Os and all arguments of each statement's domain the function returns true. No condition. -/
set_option linter.unusedVariables false
namespace Go.Proofs.YtmelbipidffmpaaGreatDoor
open Hw
theorem makes_holds : Rows.TreeMakesCardSaid := makes_card
theorem grows_holds : Rows.TreeGrowsCardSaid := grows_card
end Go.Proofs.YtmelbipidffmpaaGreatDoor
