/- Locks: the reference's circle, walked. -/
import Derived.Test.YtkbancdmhcnhjaaGreatNe
set_option linter.unusedVariables false
set_option linter.unusedSimpArgs false
set_option maxRecDepth 20000
namespace Go.Proofs.YtkbancdmhcnhjaaGreat.Hw
open Go Go.Proofs
theorem circR_nil {E : Int → List Int} {s : Int} : ∀ {k : Nat}, circR E s k [] = none
  | 0 => rfl
  | _ + 1 => rfl
theorem map_get {rs : List RR} {j : Nat} {x : RR} (h : rs[j]? = some x) : (rs.map (·.r))[j]? = some x.r := by rw [List.getElem?_map, h]; rfl
section
variable {H0 H : Hp} {Q : Value → Hp → Prop}
theorem c61 {A0 A1 A2 : Option Addr} {n0 c0 n1 c1 n2 c2 : Nat} {l : LK} {s : Int} (hl : LocksAt H A0 n0 c0 A1 n1 c1 A2 n2 c2 l) (ht : Tame l) (ho : Once l.waits)
    (hq0 : ∀ H', Ext H H' → circR (rowE l) s 300 [[s]] = none → Q (.slice none 0 0) H')
    (hq1 : ∀ r A c H', Ext H H' → circR (rowE l) s 300 [[s]] = some r → SlAt inC H' A r.length r → r.length ≤ c → r ≠ [] → Q (.slice A r.length c) H') :
    HCalls Tryz.prog 61 [.agg #[.slice A0 n0 c0, .slice A1 n1 c1, .slice A2 n2 c2], .int .i64 s, .int .i64 300] H Q := by
  refine f61.ok _ _ _ _ _ _ _ _ _ _ _ ?_
  unfold f61
  intro g1 hg1
  have x1 : Ext H (upd g1 (.cells [Value.int .i64 s].toArray 3 (0, 0)) H) := Ext.new hg1
  have s1 : SlAt inC (upd g1 (.cells [Value.int .i64 s].toArray 3 (0, 0)) H) (some ⟨g1, 0, none⟩) 1 [s] := oneI
  generalize (upd g1 (.cells [Value.int .i64 s].toArray 3 (0, 0)) H) = H2 at x1 s1 ⊢
  intro g3 hg3
  have x3 : Ext H2 (upd g3 (.cells [Value.slice (some ⟨g1, 0, none⟩) 1 1].toArray 38 (0, 0)) H2) := Ext.new hg3
  have s3 : SlAt rrC (upd g3 (.cells [Value.slice (some ⟨g1, 0, none⟩) 1 1].toArray 38 (0, 0)) H2) (some ⟨g3, 0, none⟩) 1 [RR.mk (some ⟨g1, 0, none⟩) 1 [s]] :=
    ⟨rfl, .inr ⟨g3, 0, rfl, fun j v hj => by rw [cl_cells upd_at, Nat.zero_add]; exact hj⟩, by unfold huge; simp⟩
  generalize (upd g3 (.cells [Value.slice (some ⟨g1, 0, none⟩) 1 1].toArray 38 (0, 0)) H2) = H4 at x3 s3 ⊢
  obtain ⟨G, hG⟩ : ∃ G, G = circR (rowE l) s 300 [[s]] := ⟨_, rfl⟩
  rw [← hG] at hq0 hq1
  have hG0 : circR (rowE l) s (300 - 0) ([RR.mk (some ⟨g1, 0, none⟩) 1 [s]].map (·.r)) = G := by
    rw [hG]
    simp only [Nat.sub_zero, List.map_cons, List.map_nil]
  clear hG
  have hnod := nodes_len ht
  have wb : ∀ t, (rise (waitedL l t)).length < big := fun t => rise_big (waited_len ht)
  refine loop_to 300 (fun i st H' => ∃ (A : Option Addr) (c : Nat) (rs : List RR), st = (((A, rs.length, c), (((i + 1 : Nat) : Int), ())), ()) ∧ SlAt rrC H' A rs.length rs ∧ (∀ x ∈ rs, SlAt inC H' x.A x.r.length x.r ∧ x.r.length ≤ x.c ∧ x.r.length = i + 1) ∧ Ext H H' ∧ rs.length ≤ 30000 ∧ circR (rowE l) s (300 - i) (rs.map (·.r)) = G)
    ?_ ?_
  · refine ⟨some ⟨g3, 0, none⟩, 1, [RR.mk (some ⟨g1, 0, none⟩) 1 [s]], rfl, s3, fun x hx => ?_, x1.trans x3, by simp, hG0⟩
    obtain rfl := List.mem_singleton.1 hx
    exact ⟨s1.ext x3, Nat.le_refl _, rfl⟩
  rintro i st H6 next hi ⟨A, c, rs, rfl, hT, hrows, hx6, hlen, hcirc⟩ hnext
  dsimp only
  refine jn_intro (fun J => ((i = 300 ∨ rs = []) → J false) ∧ (i < 300 → rs ≠ [] → J true)) ?_ ?_
  refine ⟨fun h => ?_, fun hi' hne => ?_⟩
  · refine cndF rfl (hq0 H6 hx6 ?_)
    rw [← hcirc]
    rcases h with h | h
    · rw [h, Nat.sub_self]; rfl
    · rw [h]; exact circR_nil
  · refine cndT rfl ?_
    have e300 : 300 - i = (299 - i) + 1 := by omega
    have e299 : 300 - (i + 1) = 299 - i := by omega
    have hemp : (rs.map (·.r)).isEmpty = false := by cases rs with | nil => exact absurd rfl hne | cons _ _ => rfl
    refine scan (n := rs.length) (by omega) (fun j H' => Ext H6 H' ∧ ∀ (k : Nat) x, k < j → rs[k]? = some x → (rowE l (lastD x.r)).any (· == s) = false) ⟨Ext.refl _, fun k x hk => by omega⟩ ?_ ?_
    · rintro j H11 next12 hj ⟨hx11, hI⟩ hnext12
      obtain ⟨x, hx⟩ := get_of hj
      obtain ⟨hxr, hxc, hxl⟩ := hrows x (List.mem_of_getElem? hx)
      have hxr := hxr.ext hx11
      have hne : x.r ≠ [] := fun e => by rw [e] at hxl; simp at hxl
      have elast : IntKind.i64.wrap ((x.r.length : Int) - 1) = ((x.r.length - 1 : Nat) : Int) := by rw [wrap_id (by omega) (by omega)]; omega
      refine cndT (decide_eq_true (by dsimp only; omega)) ⟨by simp, by dsimp only; omega, rd_rr (hT.ext hx11) hx fun p o _ k1 => ⟨x.A, x.r.length, x.c, by simpa using k1, ?_⟩⟩
      rw [elast]
      refine ⟨by omega, by omega, rd_in hxr (get_last hne) fun p' o' _ k2 => ⟨lastD x.r, by simpa using k2, c55 (hl.ext (hx6.trans hx11)) ht ho fun A19 c19 H18 R hx18 => ⟨_, _, _, rfl, c80 (R.at (wb _)) ⟨_, rfl, cndI (fun h => ?_) (fun h => ⟨rfl, hnext12 _ ⟨hx11.trans hx18, fun k y hk hy => ?_⟩⟩)⟩⟩⟩⟩
      · refine hq1 x.r x.A x.c H18 ((hx6.trans hx11).trans hx18) ?_ (hxr.ext hx18) hxc hne
        have hfd : foundR (rowE l) s (rs.map (·.r)) = some x.r := by
          unfold foundR
          refine find_hit (i := j) ?_ (map_get hx) h
          rw [List.any_eq_false]
          intro r hr hc
          obtain ⟨k, hk⟩ := List.getElem?_of_mem hr
          rw [List.getElem?_take] at hk
          split at hk
          · rename_i hkj
            obtain ⟨y, hy⟩ := get_of (l := rs) (i := k) (by omega)
            rw [map_get hy] at hk
            cases hk
            rw [hI k y hkj hy] at hc; cases hc
          · cases hk
        rw [← hcirc, e300]
        unfold circR
        rw [hemp, hfd]; rfl
      · by_cases e : k = j
        · subst e; rw [hx] at hy; cases hy; exact h
        · exact hI k y (by omega) hy
    · rintro H11 next12 ⟨hx11, hI⟩
      have hnf : foundR (rowE l) s (rs.map (·.r)) = none := find_none_take fun k r hk => by
        have hkl := (List.getElem?_eq_some_iff.1 hk).1
        rw [List.length_map] at hkl
        obtain ⟨y, hy⟩ := get_of (l := rs) (i := k) hkl
        rw [map_get hy] at hk
        cases hk
        exact hI k y hkl hy
      have hnextc : circR (rowE l) s (300 - (i + 1)) (stepL (rowE l) s (rs.map (·.r))) = G := by
        rw [← hcirc, e300, e299]
        conv => rhs; unfold circR
        rw [hemp, hnf]; rfl
      refine cndF (by simp) ?_
      refine loop_to rs.length (fun j st H' => ∃ TA tc SA sc ns seen, st = (((TA, ns.length, tc), ((SA, seen.length, sc), ((j : Int), ()))), ()) ∧ LvI H11 H' TA tc SA sc ns seen ∧ (ns.map (·.r), seen) = ((rs.map (·.r)).take j).foldl (stepR (rowE l) s) ([], []) ∧ seen.Nodup ∧ seen ⊆ nodesL l ∧ ns.length = seen.length ∧ ∀ y ∈ ns, y.r.length = i + 2)
        ⟨none, 0, none, 0, [], [], rfl, ⟨Ext.refl _, Row.nil, Row.nil, fun x h => (by cases h), fun b ⟨_, _, h⟩ => (by cases h), fun x h => (by cases h)⟩, rfl, List.nodup_nil, fun x h => (by cases h), rfl, fun y h => (by cases h)⟩ ?_
      rintro j st H24 next25 hj ⟨TA, tc, SA, sc, ns, seen, rfl, I, hf, hnd, hsub, hls, hlr⟩ hnext25
      dsimp only
      have hsl := hnd.length_le_of_subset hsub
      by_cases hlt : j < rs.length
      · obtain ⟨x, hx⟩ := get_of hlt
        obtain ⟨hxr0, hxc, hxl⟩ := hrows x (List.mem_of_getElem? hx)
        have hxr11 := hxr0.ext hx11
        have hxr := hxr11.ext I.ext
        have hne : x.r ≠ [] := fun e => by rw [e] at hxl; simp at hxl
        have elast : IntKind.i64.wrap ((x.r.length : Int) - 1) = ((x.r.length - 1 : Nat) : Int) := by rw [wrap_id (by omega) (by omega)]; omega
        refine cndT (decide_eq_true (by omega)) ⟨by omega, by omega, rd_rr ((hT.ext hx11).ext I.ext) hx fun p o _ k1 => ⟨x.A, x.r.length, x.c, by simpa using k1, ?_⟩⟩
        rw [elast]
        refine ⟨by omega, by omega, rd_in hxr (get_last hne) fun p' o' _ k2 => ⟨lastD x.r, by simpa using k2, c55 (hl.ext ((hx6.trans hx11).trans I.ext)) ht ho fun A32 c32 H31 W hx31 => ⟨_, _, _, rfl, ?_⟩⟩⟩
        have hwb := wb (lastD x.r)
        have hwb' := hwb
        unfold big at hwb'
        refine loop_to (rise (waitedL l (lastD x.r))).length (fun q st H' => ∃ TA tc SA sc ns seen, st = (((TA, ns.length, tc), ((SA, seen.length, sc), ((q : Int), ()))), ()) ∧ LvI H11 H' TA tc SA sc ns seen ∧ (ns.map (·.r), seen) = ((rise (waitedL l (lastD x.r))).take q).foldl (stepP s x.r) (((rs.map (·.r)).take j).foldl (stepR (rowE l) s) ([], [])) ∧ seen.Nodup ∧ seen ⊆ nodesL l ∧ ns.length = seen.length ∧ (∀ y ∈ ns, y.r.length = i + 2) ∧ RowI H24 H' A32 c32 (rise (waitedL l (lastD x.r))) ∧ ∀ b, rowB A32 b → ¬ rowB TA b ∧ ¬ rowB SA b)
          ⟨TA, tc, SA, sc, ns, seen, rfl, I.more hx31, hf, hnd, hsub, hls, hlr, W, fun b hb => ⟨fun h => (I.tab.lt h).1 (Row.lt W hb).2, fun h => (Row.lt I.sn h).1 (Row.lt W hb).2⟩⟩ ?_
        rintro q st H34 next35 hq ⟨TA2, tc2, SA2, sc2, ns2, seen2, rfl, I2, hf2, hnd2, hsub2, hls2, hlr2, W2, hsep⟩ hnext35
        dsimp only
        have hsl2 := hnd2.length_le_of_subset hsub2
        by_cases hql : q < (rise (waitedL l (lastD x.r))).length
        · obtain ⟨m, hm⟩ := get_of hql
          have hmw : m ∈ waitedL l (lastD x.r) := mem_rise.1 (List.mem_of_getElem? hm)
          have eq' : IntKind.i64.wrap ((q : Int) + 1) = ((q + 1 : Nat) : Int) := by rw [wrap_id (by omega) (by omega)]; rfl
          refine cndT (decide_eq_true (by omega)) (jn_intro (fun J => ∀ TA' tc' SA' sc' (ns' : List RR) (seen' : List Int) H', LvI H11 H' TA' tc' SA' sc' ns' seen' → (ns'.map (·.r), seen') = stepP s x.r (ns2.map (·.r), seen2) m → seen'.Nodup → seen' ⊆ nodesL l → ns'.length = seen'.length → (∀ y ∈ ns', y.r.length = i + 2) → RowI H24 H' A32 c32 (rise (waitedL l (lastD x.r))) → (∀ b, rowB A32 b → ¬ rowB TA' b ∧ ¬ rowB SA' b) → J TA' ns'.length tc' SA' seen'.length sc' H')
            (fun TA' tc' SA' sc' ns' seen' H' h1 h2 h3 h4 h5 h6 h7 h8 => ⟨rfl, hnext35 _ _ hql ⟨TA', tc', SA', sc', ns', seen', by rw [eq'], h1, by rw [fold_succ hm, ← hf2]; exact h2, h3, h4, h5, h6, h7, h8⟩⟩) fun J66 hJ66 => ?_)
          refine ⟨by omega, by omega, rd_in (W2.at hwb) hm fun p o _ k1 => ⟨m, by simpa using k1, ?_⟩⟩
          have hsn : SlAt inC H34 SA2 seen2.length seen2 := I2.sn.at (by unfold big; omega)
          have hxr34 := hxr11.ext I2.ext
          refine jn_intro (fun J => ∀ b, b = (decide (m > s) && (!(x.r.any (· == m)) && !(seen2.any (· == m)))) → J b H34) (fun b hb => ?_) fun J46 hJ46 => cndI (fun h1 => c80 hxr34 ⟨_, rfl, cndI (fun h2 => c80 hsn ⟨_, rfl, hJ46 _ ?_⟩) (fun h2 => hJ46 _ ?_)⟩) (fun h1 => hJ46 _ ?_)
          rotate_left
          · rw [h1, h2]; rfl
          · rw [h1, h2]; rfl
          · rw [h1]; rfl
          subst hb
          refine cndI (fun h => ?_) (fun h => ?_)
          · have hstep : stepP s x.r (ns2.map (·.r), seen2) m = (ns2.map (·.r) ++ [x.r ++ [m]], seen2 ++ [m]) := by unfold stepP; rw [if_pos h]
            rw [hstep] at hJ66
            have hnm : m ∉ seen2 := fun hm' => by
              rw [has_mem.2 hm'] at h
              simp at h
            have key := I2.add (m := m) (r := x.r) (A := x.A) (K := fun A57 n57 c57 A49 n49 c49 H58 => J66 A57 n57 c57 A49 n49 c49 H58) hxr11.cells (by unfold big; omega) (by unfold big; omega) (by unfold big; omega) fun TA' tc' SA' sc' B d H' I' fr w1 w2 => hJ66 TA' tc' SA' sc' _ _ H' I' (by simp) (by
                rw [List.nodup_append]
                refine ⟨hnd2, by simp, fun a ha b hb => ?_⟩
                obtain rfl := List.mem_singleton.1 hb
                exact fun e => hnm (e ▸ ha)) (fun y hy => by
                rcases List.mem_append.1 hy with hy | hy
                · exact hsub2 hy
                · obtain rfl := List.mem_singleton.1 hy; exact waited_nodes hmw) (by simp [hls2]) (fun y hy => by
                rcases List.mem_append.1 hy with hy | hy
                · exact hlr2 y hy
                · obtain rfl := List.mem_singleton.1 hy
                  simp only [List.length_append, List.length_singleton]; omega) (Row.keep W2 fun b hb => fr b (Row.lt W2 hb).1 (hsep b hb).1 (hsep b hb).2) (fun b hb => ⟨fun h' => (w1 b h').elim (hsep b hb).1 (Row.lt W2 hb).1, fun h' => (w2 b h').elim (hsep b hb).2 (Row.lt W2 hb).1⟩)
            simp only [Int.toNat_natCast, Nat.sub_zero, cut_zero]
            exact newF_mono (fun g H48 h48 => appendF_mono (fun A49 n49 c49 H50 h50 => ⟨by omega, by omega, by omega, by omega, h50⟩) h48) key
          · have hstep : stepP s x.r (ns2.map (·.r), seen2) m = (ns2.map (·.r), seen2) := by unfold stepP; rw [if_neg (by rw [h]; decide)]
            rw [hstep] at hJ66
            exact hJ66 TA2 tc2 SA2 sc2 ns2 seen2 H34 I2 rfl hnd2 hsub2 hls2 hlr2 W2 hsep
        · obtain rfl : q = (rise (waitedL l (lastD x.r))).length := by omega
          rw [List.take_length] at hf2
          have ej : IntKind.i64.wrap ((j : Int) + 1) = ((j + 1 : Nat) : Int) := by rw [wrap_id (by omega) (by omega)]; rfl
          exact cndF (decide_eq_false (by omega)) ⟨rfl, hnext25 _ _ hlt ⟨TA2, tc2, SA2, sc2, ns2, seen2, by rw [ej], I2, by rw [fold_succ (map_get hx)]; exact hf2, hnd2, hsub2, hls2, hlr2⟩⟩
      · obtain rfl : j = rs.length := by omega
        have et : (rs.map (·.r)).take rs.length = rs.map (·.r) := List.take_of_length_le (by rw [List.length_map]; exact Nat.le_refl _)
        rw [et] at hf
        have ei : IntKind.i64.wrap (((i + 1 : Nat) : Int) + 1) = ((i + 1 + 1 : Nat) : Int) := by rw [wrap_id (by omega) (by omega)]; rfl
        have hst : stepL (rowE l) s (rs.map (·.r)) = ns.map (·.r) := by unfold stepL; rw [← hf]
        rw [hst] at hnextc
        refine cndF (decide_eq_false (by omega)) ⟨rfl, hnext _ _ hi' ⟨TA, tc, ns, by rw [ei], ⟨rfl, I.tab.cells, by unfold huge; omega⟩, fun y hy => ⟨(I.row y hy).at (by have := hlr y hy; unfold big; omega), (I.row y hy).2.1, hlr y hy⟩, (hx6.trans hx11).trans I.ext, by omega, hnextc⟩⟩
  intro J hJ
  refine cndI (fun h => ?_) (fun h => ?_)
  · have hi' : i < 300 := by have := of_decide_eq_true h; omega
    by_cases hr : rs = []
    · have : decide (((rs.length : Nat) : Int) > 0) = false := by rw [hr]; rfl
      rw [this]; exact hJ.1 (.inr hr)
    · have : decide (((rs.length : Nat) : Int) > 0) = true := by
        have := List.length_pos_iff.2 hr
        exact decide_eq_true (by omega)
      rw [this]; exact hJ.2 hi' hr
  · exact hJ.1 (.inl (by have := of_decide_eq_false h; omega))
end
end Go.Proofs.YtkbancdmhcnhjaaGreat.Hw
