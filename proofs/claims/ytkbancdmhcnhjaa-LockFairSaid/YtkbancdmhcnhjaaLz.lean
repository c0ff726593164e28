/- Locks: Circle. -/
import Derived.Test.YtkbancdmhcnhjaaLy
set_option linter.unusedVariables false
set_option linter.unusedSimpArgs false
namespace Go.Proofs.Ytkbancdmhcnhjaa.Hw
open Go Go.Proofs
noncomputable def backM (l : LK) (t : Int) : Option (List Int) := Classical.epsilon fun r => Way (rowE l) t t [t] r
theorem backM_of {l : LK} {t : Int} {r : Option (List Int)} (h : Way (rowE l) t t [t] r) : backM l t = r :=
  way_uniq (Classical.epsilon_spec (p := fun r => Way (rowE l) t t [t] r) ⟨r, h⟩) h
def circStep (acc c : Option (List Int)) : Option (List Int) := match c with
  | none => acc
  | some p => match acc with
    | none => some p
    | some q => if p.length < q.length then some p else some q
noncomputable def bestM (l : LK) (ts : List Int) : Option (List Int) := ts.foldl (fun acc t => circStep acc (backM l t)) none
noncomputable def circM (l : LK) : List Int × Int := if validM l then (match bestM l (rise (allL l)) with
    | none => ([], 4)
    | some p => (p, 0)) else ([], 2)
theorem bestM_succ {l : LK} {ts : List Int} {i : Nat} {t : Int} (h : ts[i]? = some t) : bestM l (ts.take (i + 1)) = circStep (bestM l (ts.take i)) (backM l t) := by
  unfold bestM
  rw [List.take_add_one, h, List.foldl_append]; rfl
theorem all_len {l : LK} (ht : Tame l) : (allL l).length ≤ 20000 := by
  have t1 := ht.2.1
  have t2 := ht.2.2.1
  unfold allL
  rw [List.length_append, List.length_map, List.length_map]; omega
/-- The best way back so far, in memory. -/
def BestAt (H : Hp) (acc : Option (List Int)) (A : Option Addr) (n c : Nat) : Prop := match acc with
  | none => A = none ∧ n = 0 ∧ c = 0
  | some p => A.isSome = true ∧ n = p.length ∧ SlAt inC H A p.length p ∧ p.length ≤ c
theorem BestAt.ext {H H' : Hp} {acc : Option (List Int)} {A : Option Addr} {n c : Nat} (h : BestAt H acc A n c) (hx : Ext H H') : BestAt H' acc A n c := by
  cases acc with
  | none => exact h
  | some p => exact ⟨h.1, h.2.1, h.2.2.1.ext hx, h.2.2.2⟩
section
variable {H0 H : Hp} {Q : Value → Hp → Prop}
theorem c9 {A0 A1 A2 : Option Addr} {n0 c0 n1 c1 n2 c2 : Nat} {l : LK} (hl : LocksAt H A0 n0 c0 A1 n1 c1 A2 n2 c2 l) (hq : ForR H Q (circM l)) :
    HCalls Try.prog 9 [.agg #[.slice A0 n0 c0, .slice A1 n1 c1, .slice A2 n2 c2]] H Q := by
  refine f9.ok _ _ _ _ _ _ _ _ _ ?_
  unfold f9
  unfold circM at hq
  refine c10 hl fun H2 hx2 => ⟨_, rfl, cndI (fun h => ?_) (fun h => ?_)⟩
  · have h : validM l = false := by simpa using h
    rw [if_neg (by rw [h]; decide)] at hq
    exact hq none 0 0 H2 hx2 (nilI H2) (Nat.le_refl _)
  have hv : validM l = true := by simpa using h
  rw [if_pos hv] at hq
  have ht := valid_tame hv hl.str
  have hr := valid_rising hv
  have hal := all_len ht
  refine newMap_to (k := .i64) fun m H5 hm hx5 hM5 => ?_
  have hmH : H m = none := hx2.none hm
  have hxH5 := hx2.trans hx5
  refine c21 (hl.ext hxH5) ht fun A8 c8g H7 R8 hx7 => ⟨_, _, _, rfl, ?_⟩
  have hb : (rise (allL l)).length < big := rise_big (by unfold big; omega)
  have hb' := hb
  unfold big at hb'
  refine scan (n := (rise (allL l)).length) (by omega) (fun i H' => ∃ kv, MapAt .i64 H' m kv ∧ Ext H H' ∧ Stay H7 H' ∧ KvOk l H' kv ∧ (∀ t v, (t, v) ∈ kv → t ∈ rise (allL l)) ∧ ∀ k t, k < i → (rise (allL l))[k]? = some t → ∃ v, (t, v) ∈ kv)
    ⟨[], hM5.ext hx7, hxH5.trans hx7, Stay.refl _, fun t v h => (by cases h), fun t v h => (by cases h), fun k t hk => by omega⟩ ?_ ?_
  · rintro i H10 next hi ⟨kv, hM, hx, hs, hk, hin, hI⟩ hnext
    obtain ⟨x, hx'⟩ := get_of hi
    refine cndT (by simpa using hi) ⟨by simp, by simpa using hi, rd_in ((R8.at hb).stay hs) hx' fun p o _ k1 => ⟨x, by simpa using k1, c22 (hl.ext hx) ht hr fun A17 c19 H16 R17 hx16 => ⟨_, _, _, rfl, put_to (hM.ext hx16) fun H18 hM18 ho18 => ⟨rfl, hnext _ ⟨_, hM18, ?_, ?_, ?_, ?_, ?_⟩⟩⟩⟩⟩
    · exact ext_off (hx.trans hx16) hmH ho18
    · exact (hs.trans hx16.stay).trans ((hM.ext hx16).stay ho18)
    · have st := (hM.ext hx16).stay ho18
      intro t v hv
      have hg18 := (kvGet_mem hM18.keys).2 hv
      rw [kvGet_put] at hg18
      split at hg18
      · rename_i e
        subst e
        cases hg18
        exact ⟨A17, c19, rfl, (R17.at (rise_big (waited_len ht))).stay st, fun h => row_some R17 (rise_ne h)⟩
      · exact ((hk.stay hx16.stay).stay st) t v ((kvGet_mem hM.keys).1 hg18)
    · intro t v hv
      have hg18 := (kvGet_mem hM18.keys).2 hv
      rw [kvGet_put] at hg18
      split at hg18
      · rename_i e
        subst e
        exact List.mem_of_getElem? hx'
      · exact hin t v ((kvGet_mem hM.keys).1 hg18)
    · intro k t hkl ht'
      by_cases e : k = i
      · subst e
        rw [hx'] at ht'; cases ht'
        exact ⟨_, (kvGet_mem hM18.keys).1 (by rw [kvGet_put, if_pos rfl])⟩
      · obtain ⟨v, hv⟩ := hI k t (by omega) ht'
        by_cases e2 : t = x
        · subst e2
          exact ⟨_, (kvGet_mem hM18.keys).1 (by rw [kvGet_put, if_pos rfl])⟩
        · exact ⟨v, (kvGet_mem hM18.keys).1 (by rw [kvGet_put, if_neg e2]; exact (kvGet_mem hM.keys).2 hv)⟩
  · rintro H10 next ⟨kv, hM, hx, hs, hk, hin, hI⟩
    refine cndF (by simp) ?_
    have hall : ∀ t, waitedL l t ≠ [] → ∃ v, (t, v) ∈ kv := fun t hne => by
      obtain ⟨u, hu⟩ := List.exists_mem_of_ne_nil _ hne
      obtain ⟨k, hk'⟩ := List.getElem?_of_mem (mem_rise.2 (waited_all hu))
      exact hI k t (List.getElem?_eq_some_iff.1 hk').1 hk'
    have hkl : kv.length ≤ 30000 := by
      have h1 : (kv.map (·.1)).Nodup := hM.keys
      have h2 : kv.map (·.1) ⊆ rise (allL l) := fun x hx => by
        obtain ⟨p, hp, rfl⟩ := List.mem_map.1 hx
        exact hin p.1 p.2 hp
      have h3 := h1.length_le_of_subset h2
      rw [List.length_map] at h3
      have := rise_len (l := allL l)
      omega
    have R10 : SlAt inC H10 A8 (rise (allL l)).length (rise (allL l)) := (R8.at hb).stay hs
    refine loop_to (rise (allL l)).length (fun i s H' => ∃ (A : Option Addr) (n c : Nat), s = (((A, n, c), ((i : Int), ())), ()) ∧ Ext H10 H' ∧ BestAt H' (bestM l ((rise (allL l)).take i)) A n c) ⟨none, 0, 0, rfl, Ext.refl _, rfl, rfl, rfl⟩ ?_
    rintro i s H19 next hi ⟨A, n, c, rfl, hx19, hB⟩ hnext
    dsimp only
    by_cases hlt : i < (rise (allL l)).length
    · obtain ⟨t, ht'⟩ := get_of hlt
      have ei : IntKind.i64.wrap ((i : Int) + 1) = ((i + 1 : Nat) : Int) := by rw [wrap_id (by omega) (by omega)]; rfl
      refine cndT (decide_eq_true (by omega)) (jn_intro (fun J => ∀ A' n' c' H', Ext H10 H' → BestAt H' (bestM l ((rise (allL l)).take (i + 1))) A' n' c' → J A' n' c' H') (fun A' n' c' H' h1 h2 => ⟨rfl, hnext _ _ hlt ⟨A', n', c', by rw [ei], h1, h2⟩⟩) fun J hJ => ?_)
      rw [bestM_succ ht'] at hJ
      generalize bestM l ((rise (allL l)).take i) = acc at hB hJ
      refine ⟨by omega, by omega, rd_in (R10.ext hx19) ht' fun p o _ k1 => ⟨t, by simpa using k1, c23 (hM.ext hx19) (hk.stay hx19.stay) hall hkl ht (fun H24 hx24 hw => ⟨_, _, _, rfl, ?_⟩) (fun out A25 c9' H24 hx24 hw R25 hs25 hob => ⟨_, _, _, rfl, ?_⟩)⟩⟩
      · rw [backM_of hw] at hJ
        unfold jn
        exact cndF rfl (cndF rfl (hJ A n c H24 (hx19.trans hx24) (hB.ext hx24)))
      · rw [backM_of hw] at hJ
        have eN : A25.isNone = false := by cases A25 with | none => cases hs25 | some _ => rfl
        unfold jn
        rw [eN]
        have yes : BestAt H24 (some out) A25 out.length c9' := ⟨hs25, rfl, R25.at hob, R25.2.1⟩
        refine cndT rfl ?_
        cases acc with
        | none =>
          obtain ⟨rfl, rfl, rfl⟩ := hB
          exact cndT rfl (cndT rfl (hJ _ _ _ H24 (hx19.trans hx24) yes))
        | some q =>
          have hB' := hB.ext hx24
          obtain ⟨hA, rfl, _, _⟩ := hB
          have eA : A.isNone = false := by cases A with | none => cases hA | some _ => rfl
          rw [eA]
          refine cndF rfl (cndI (fun h => hJ _ _ _ H24 (hx19.trans hx24) ?_) (fun h => hJ _ _ _ H24 (hx19.trans hx24) ?_))
          · unfold circStep
            simp only
            rw [if_pos (by have := of_decide_eq_true h; omega)]; exact yes
          · unfold circStep
            simp only
            rw [if_neg (by have := of_decide_eq_false h; omega)]; exact hB'
    · obtain rfl : i = (rise (allL l)).length := by omega
      rw [List.take_length] at hB
      refine cndF (decide_eq_false (by omega)) ?_
      cases hbm : bestM l (rise (allL l)) with
      | none =>
        rw [hbm] at hB hq
        obtain ⟨rfl, rfl, rfl⟩ := hB
        exact cndT rfl (hq none 0 0 H19 (hx.trans hx19) (nilI H19) (Nat.le_refl _))
      | some q =>
        rw [hbm] at hB hq
        obtain ⟨hA, rfl, hS, hc⟩ := hB
        have eA : A.isNone = false := by cases A with | none => cases hA | some _ => rfl
        rw [eA]
        exact cndF rfl (hq A _ c H19 (hx.trans hx19) hS hc)
end
end Go.Proofs.Ytkbancdmhcnhjaa.Hw
