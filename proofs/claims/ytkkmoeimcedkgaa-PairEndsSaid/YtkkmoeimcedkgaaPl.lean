/- The pair: an act of the reference. -/
import Derived.Test.YtkkmoeimcedkgaaPk
set_option linter.unusedVariables false
set_option linter.unusedSimpArgs false
namespace Go.Proofs.Ytkkmoeimcedkgaa.Hw
open Go Go.Proofs
section
variable {H0 H H' : Hp} {g bs cS : Nat} {s : ST} {Q : Value → Hp → Prop} {K : Hp → Prop}
theorem c31 (h : AS H0 H g bs cS s) {op sd nt : Int} (hr : s.inRange op sd nt = true) (hN : ∀ n ∈ s.ns, n.1 = 0 ∨ n.1 = 1) (hb : s.tot + 2 < big)
    (hno : s.can op sd nt = false → ∀ H', Ext H0 H' → Q (.bool false) H') (hyes : s.can op sd nt = true → ∀ H', AS H0 H' g bs cS (s.eff op sd nt) → Q (.bool true) H') :
    HCalls Try.prog 31 [.pointer (some ⟨g, 0, none⟩), .agg #[.int .i64 op, .int .i64 sd, .int .i64 nt]] H Q := by
  refine f31.ok g 0 _ _ _ ?_
  unfold f31 jn
  dsimp only
  obtain ⟨A0, n0, c0, A1, n1, c1, An, cn, m0, m1, m2, m3, m4, m5, m6, l0, l1, l2, l3, l4⟩ := h.rd
  have hsm := h.small
  have hb2 := hb
  unfold big at hb2
  refine ⟨_, _, _, h.cl0, cndI (fun k1 => ?_) (fun k1 => cndI (fun k2 => ?_) (fun k2 => cndI (fun k3 => ?_) (fun k3 => cndI (fun k4 => ?_) (fun k4 => cndI (fun k5 => ?_) (fun k5 => cndI (fun k6 => ?_) (fun k6 => cndI (fun k7 => ?_) (fun k7 => cndI (fun k8 => ?_) (fun k8 => cndI (fun k9 => ?_) (fun k9 => ?_)))))))))⟩
  · -- begin
    obtain rfl : op = 1 := by simpa using k1
    have ec : s.can 1 sd nt = (s.s0.up && s.s1.up && s.s0.ph == 0 && s.s1.ph == 0 && decide (s.s0.log.length = 0) && decide (s.s1.log.length = 0)) := rfl
    rw [ec] at hno hyes
    refine ⟨by omega, by omega, onPtrI ⟨s.s0.up, m1, cndI (fun hu => cndT rfl (hno ?_ _ h.ext)) (fun hu => ⟨by omega, by omega, onPtrI ⟨s.s1.up, m4, cndI (fun hv => cndT rfl (hno ?_ _ h.ext)) (fun hv => is50n_0 h [0] rfl tiny1.1 (fun H2 h2 e2 => cndT rfl (hno ?_ _ h2.ext)) (fun H2 h2 e2 => is50n_1 h2 [0] rfl tiny1.1 (fun H3 h3 e3 => cndT rfl (hno ?_ _ h3.ext)) (fun H3 h3 e3 => ?_)))⟩⟩)⟩⟩
    · rw [Bool.not_eq_true'] at hu; rw [hu]; rfl
    · rw [Bool.not_eq_true'] at hv; rw [hv]; simp
    · rw [in0_1] at e2; rw [e2]; simp
    · rw [in1_1] at e3; rw [e3]; simp
    obtain ⟨B0, p0, d0, B1, p1, d1, Bn, dn, u0, u1, u2, u3, u4, u5, u6, v0, v1, v2, v3, v4⟩ := h3.rd
    subst v0 v1
    rw [Bool.not_eq_false'] at hu hv
    rw [in0_1] at e2
    rw [in1_1] at e3
    rw [hu, hv, e2, e3] at hno hyes
    have h3s := h3.small
    unfold big at h3s
    refine ⟨by omega, by omega, onPtrI ⟨_, _, _, u2, by omega, by omega, onPtrI ⟨_, _, _, u5, cndI (fun hl => hno ?_ _ h3.ext) (fun hl => ?_)⟩⟩⟩
    · have hl := of_decide_eq_true hl
      rw [wrap_id (by omega) (by omega)] at hl
      by_cases e : s.s0.log.length = 0
      · rw [decide_eq_false (p := s.s1.log.length = 0) (by omega)]; simp
      · rw [decide_eq_false e]; rfl
    · have hl := of_decide_eq_false hl
      rw [wrap_id (by omega) (by omega)] at hl
      rw [decide_eq_true (p := s.s0.log.length = 0) (by omega), decide_eq_true (p := s.s1.log.length = 0) (by omega)] at hyes
      exact ⟨by omega, by omega, onPtrI (stPh0 h3 fun H4 h4 => ⟨by omega, by omega, onPtrI (stPh1 h4 fun H5 h5 => hyes rfl _ h5)⟩)⟩
  · -- ask
    obtain rfl : op = 2 := by simpa using k2
    have ec : s.can 2 sd nt = (s.s0.up && s.s0.ph == 1) := rfl
    rw [ec] at hno hyes
    refine ⟨by omega, by omega, onPtrI ⟨s.s0.up, m1, cndI (fun hu => cndT rfl (hno ?_ _ h.ext)) (fun hu => is50n_0 h [1] rfl tiny1.1 (fun H2 h2 hp => hno ?_ _ h2.ext) (fun H2 h2 hp => ⟨by omega, by omega, onPtrI (stPh0 h2 fun H3 h3 => d51 h3 (by unfold ST.ph0 ST.tot at *; simp only at *; omega) fun H4 h4 => ⟨rfl, hyes ?_ _ h4⟩)⟩))⟩⟩
    · rw [Bool.not_eq_true'] at hu; rw [hu]; rfl
    · rw [in0_1] at hp; rw [hp]; simp
    · rw [Bool.not_eq_false'] at hu
      rw [in0_1] at hp; rw [hu, hp]; rfl
  · -- give
    obtain rfl : op = 3 := by simpa using k3
    have er : s.inRange 3 sd nt = (decide (0 ≤ nt) && decide (nt < s.ns.length)) := rfl
    rw [er] at hr
    simp only [Bool.and_eq_true, decide_eq_true_eq] at hr
    obtain ⟨i, rfl⟩ : ∃ i : Nat, nt = i := ⟨nt.toNat, by omega⟩
    have hi : i < s.ns.length := by omega
    have hg := noteAt_get hi
    have hto := hN _ (List.mem_of_getElem? hg)
    have ec : s.can 3 sd i = s.upAt (s.noteAt i).1 := rfl
    have ee : s.eff 3 sd i = s.give i := rfl
    rw [ec] at hno hyes
    rw [ee] at hyes
    have ht := tot_take (s := s) (i := i)
    refine ⟨_, _, _, m6, by omega, by omega, rd_note l4 hg fun b o _ q1 q2 => ⟨_, by simpa using q1, _, by simpa using q2, ?_⟩⟩
    have go : s.upAt (s.noteAt i).1 = true → HCalls Try.prog 52 [.pointer (some ⟨g, 0, none⟩), .int .i64 (i : Int)] H fun v47 H48 => v47 = .tuple #[] ∧ cnd ((s.noteAt i).1 == 1) (HCalls Try.prog 53 [.pointer (some ⟨g, 0, none⟩), .int .i64 (s.noteAt i).2] H48 fun v49 H50 => v49 = .tuple #[] ∧ Q (.bool true) H50) (HCalls Try.prog 54 [.pointer (some ⟨g, 0, none⟩), .int .i64 (s.noteAt i).2] H48 fun v51 H52 => v51 = .tuple #[] ∧ Q (.bool true) H52) := fun hu =>
      c52 h hi rfl fun H2 h2 => ⟨rfl, by
        unfold ST.give at hyes
        simp only [Int.toNat_natCast] at hyes
        refine cndI (fun e => c53 h2 (by omega) fun H14 h14 => ⟨rfl, ?_⟩) (fun e => c54 h2 (by omega) fun H14 h14 => ⟨rfl, ?_⟩)
        · have e0 : ((s.noteAt i).1 == 0) = false := by rw [beq_iff_eq] at e; rw [e]; rfl
          simp only [e0, Bool.false_eq_true, if_false] at hyes
          exact hyes hu _ h14
        · have e0 : ((s.noteAt i).1 == 0) = true := by
            rw [beq_eq_false_iff_ne] at e
            rw [hto.resolve_right e]; rfl
          simp only [e0, if_true] at hyes
          exact hyes hu _ h14⟩
    rcases hto with hto | hto
    · have e : s.upAt (s.noteAt i).1 = s.s0.up := by rw [hto]; rfl
      rw [e] at hno
      have go' := fun hu => go (e.trans hu)
      rw [hto] at go' ⊢
      exact ⟨by omega, by omega, onPtrI ⟨s.s0.up, m1, cndI (fun hu => hno (by simpa using hu) _ h.ext) (fun hu => go' (by simpa using hu))⟩⟩
    · have e : s.upAt (s.noteAt i).1 = s.s1.up := by rw [hto]; rfl
      rw [e] at hno
      have go' := fun hu => go (e.trans hu)
      rw [hto] at go' ⊢
      exact ⟨by omega, by omega, onPtrI ⟨s.s1.up, m4, cndI (fun hu => hno (by simpa using hu) _ h.ext) (fun hu => go' (by simpa using hu))⟩⟩
  · -- lose
    obtain rfl : op = 4 := by simpa using k4
    have er : s.inRange 4 sd nt = (decide (0 ≤ nt) && decide (nt < s.ns.length)) := rfl
    rw [er] at hr
    simp only [Bool.and_eq_true, decide_eq_true_eq] at hr
    obtain ⟨i, rfl⟩ : ∃ i : Nat, nt = i := ⟨nt.toNat, by omega⟩
    have ee : s.eff 4 sd i = s.take i := by simp [ST.eff]
    rw [ee] at hyes
    exact c52 h (by omega) rfl fun H2 h2 => ⟨rfl, hyes rfl _ h2⟩
  · -- twice
    obtain rfl : op = 5 := by simpa using k5
    have er : s.inRange 5 sd nt = (decide (0 ≤ nt) && decide (nt < s.ns.length)) := rfl
    rw [er] at hr
    simp only [Bool.and_eq_true, decide_eq_true_eq] at hr
    obtain ⟨i, rfl⟩ : ∃ i : Nat, nt = i := ⟨nt.toNat, by omega⟩
    have hi : i < s.ns.length := by omega
    have hg := noteAt_get hi
    have ec : s.can 5 sd i = decide (s.ns.length < 20) := rfl
    rw [ec] at hno hyes
    obtain ⟨r0, r1, Bn, dn, e0, e1, ha⟩ := h
    have hc1 := ha.cl1
    refine ⟨_, _, _, hc1, cndI (fun hl => hno ?_ _ ha.ext) (fun hl => ⟨_, _, _, hc1, _, _, _, m6, by omega, by omega, rd_note l4 hg fun b o _ q1 q2 => ⟨_, by simpa using q1, _, by simpa using q2, ?_⟩⟩)⟩
    · have := of_decide_eq_true hl
      exact decide_eq_false (by omega)
    · have hl := of_decide_eq_false hl
      refine newF_mono (fun b H' hk => appendF_mono (fun A n c H'' hk => storeF_mono (fun H3 hk => hk) hk) hk) (send (Q := fun _ H31 => Q (.bool true) H31) ha (by unfold ST.tot at hb; omega) fun A c H' h' => ?_)
      exact hyes (decide_eq_true (by omega)) _ ⟨r0, r1, A, c, e0, e1, h'⟩
  · -- stop
    obtain rfl : op = 6 := by simpa using k6
    have er : s.inRange 6 sd nt = (decide (0 ≤ sd) && decide (sd ≤ 1)) := rfl
    rw [er] at hr
    simp only [Bool.and_eq_true, decide_eq_true_eq] at hr
    rcases (by omega : sd = 0 ∨ sd = 1) with rfl | rfl
    · refine ⟨by omega, by omega, onPtrI ⟨s.s0.up, m1, cndI (fun hu => hno ?_ _ h.ext) (fun hu => ⟨by omega, by omega, onPtrI (stUp0 h fun H4 h4 => ⟨by omega, by omega, onPtrI (stPh0 h4 fun H5 h5 => hyes ?_ _ h5)⟩)⟩)⟩⟩
      · simpa [ST.can, ST.upAt] using hu
      · simpa [ST.can, ST.upAt] using hu
    · refine ⟨by omega, by omega, onPtrI ⟨s.s1.up, m4, cndI (fun hu => hno ?_ _ h.ext) (fun hu => ⟨by omega, by omega, onPtrI (stUp1 h fun H4 h4 => ⟨by omega, by omega, onPtrI (stPh1 h4 fun H5 h5 => hyes ?_ _ h5)⟩)⟩)⟩⟩
      · simpa [ST.can, ST.upAt] using hu
      · simpa [ST.can, ST.upAt] using hu
  · -- start
    obtain rfl : op = 7 := by simpa using k7
    have er : s.inRange 7 sd nt = (decide (0 ≤ sd) && decide (sd ≤ 1)) := rfl
    rw [er] at hr
    simp only [Bool.and_eq_true, decide_eq_true_eq] at hr
    rcases (by omega : sd = 0 ∨ sd = 1) with rfl | rfl
    · refine ⟨by omega, by omega, onPtrI ⟨s.s0.up, m1, cndI (fun hu => hno ?_ _ h.ext) (fun hu => ⟨by omega, by omega, onPtrI (stUp0 h fun H7 h7 => ⟨by omega, by omega, onPtrI ?_⟩)⟩)⟩⟩
      · simpa [ST.can, ST.upAt] using hu
      · replace hyes := hyes (by simpa [ST.can, ST.upAt] using hu)
        obtain ⟨B0, p0, d0, B1, p1, d1, Bn, dn, u0, u1, u2, u3, u4, u5, u6, v0, v1, v2, v3, v4⟩ := h7.rd
        have hl : (s.up0 true).s0.log = s.s0.log := rfl
        rw [hl] at v0 v2
        subst v0
        refine ⟨_, _, _, u2, cndI (fun hn => ?_) (fun hn => ?_)⟩
        · have hn' : 0 < s.s0.log.length := by have := of_decide_eq_true hn; omega
          refine ⟨by omega, by omega, onPtrI ⟨_, _, _, u2, ?_⟩⟩
          rw [len_pred hsm.1 hn']
          refine ⟨by omega, by omega, rd_ints v2 (lastP_get hn') fun b o _ hc => ⟨_, by simpa using hc, by omega, by omega, onPtrI (stPh0 h7 fun H8 h8 => hyes _ ?_)⟩⟩
          have e : s.eff 7 0 nt = (s.up0 true).ph0 (lastP s.s0.log) := by
            show s.start 0 = _
            unfold ST.start
            simp [hn']
          rw [e]; exact h8
        · refine hyes _ ?_
          have e : s.eff 7 0 nt = s.up0 true := by
            show s.start 0 = _
            unfold ST.start
            have := of_decide_eq_false hn
            have : ¬ 0 < s.s0.log.length := by omega
            simp [this]
          rw [e]; exact h7
    · refine ⟨by omega, by omega, onPtrI ⟨s.s1.up, m4, cndI (fun hu => hno ?_ _ h.ext) (fun hu => ⟨by omega, by omega, onPtrI (stUp1 h fun H7 h7 => ⟨by omega, by omega, onPtrI ?_⟩)⟩)⟩⟩
      · simpa [ST.can, ST.upAt] using hu
      · replace hyes := hyes (by simpa [ST.can, ST.upAt] using hu)
        obtain ⟨B0, p0, d0, B1, p1, d1, Bn, dn, u0, u1, u2, u3, u4, u5, u6, v0, v1, v2, v3, v4⟩ := h7.rd
        have hl : (s.up1 true).s1.log = s.s1.log := rfl
        rw [hl] at v1 v3
        subst v1
        refine ⟨_, _, _, u5, cndI (fun hn => ?_) (fun hn => ?_)⟩
        · have hn' : 0 < s.s1.log.length := by have := of_decide_eq_true hn; omega
          refine ⟨by omega, by omega, onPtrI ⟨_, _, _, u5, ?_⟩⟩
          rw [len_pred hsm.2.1 hn']
          refine ⟨by omega, by omega, rd_ints v3 (lastP_get hn') fun b o _ hc => ⟨_, by simpa using hc, by omega, by omega, onPtrI (stPh1 h7 fun H8 h8 => hyes _ ?_)⟩⟩
          have e : s.eff 7 1 nt = (s.up1 true).ph1 (lastP s.s1.log) := by
            show s.start 1 = _
            unfold ST.start
            simp [hn']
          rw [e]; exact h8
        · refine hyes _ ?_
          have e : s.eff 7 1 nt = s.up1 true := by
            show s.start 1 = _
            unfold ST.start
            have := of_decide_eq_false hn
            have : ¬ 0 < s.s1.log.length := by omega
            simp [this]
          rw [e]; exact h7
  · -- query
    obtain rfl : op = 8 := by simpa using k8
    have ec : s.can 8 sd nt = (s.s1.up && s.s1.ph == 2) := rfl
    rw [ec] at hno hyes
    refine ⟨by omega, by omega, onPtrI ⟨s.s1.up, m4, cndI (fun hu => cndT rfl (hno ?_ _ h.ext)) (fun hu => is50n_1 h [2] rfl tiny1.1 (fun H2 h2 hp => hno ?_ _ h2.ext) (fun H2 h2 hp => d51 h2 (by omega) fun H4 h4 => ⟨rfl, hyes ?_ _ h4⟩))⟩⟩
    · rw [Bool.not_eq_true'] at hu; rw [hu]; rfl
    · rw [in1_1] at hp; rw [hp]; simp
    · rw [Bool.not_eq_false'] at hu
      rw [in1_1] at hp; rw [hu, hp]; rfl
  · -- drop
    obtain rfl : op = 9 := by simpa using k9
    have er : s.inRange 9 sd nt = (decide (0 ≤ sd) && decide (sd ≤ 1)) := rfl
    rw [er] at hr
    simp only [Bool.and_eq_true, decide_eq_true_eq] at hr
    rcases (by omega : sd = 0 ∨ sd = 1) with rfl | rfl
    · have ec : s.can 9 0 nt = (s.s0.up && (s.s0.ph == 1 || s.s0.ph == 2)) := by simp [ST.can, ST.upAt, ST.phAt]
      rw [ec] at hno hyes
      refine ⟨by omega, by omega, onPtrI ⟨s.s0.up, m1, cndI (fun hu => cndT rfl (hno ?_ _ h.ext)) (fun hu => is50n_0 h [1] rfl tiny1.1 (fun H2 h2 hp => cndT rfl (is50n_0 h2 [2] rfl tiny1.1 (fun H3 h3 hp2 => hno ?_ _ h3.ext) (fun H3 h3 hp2 => ?_))) (fun H2 h2 hp => cndF rfl ?_))⟩⟩
      · rw [Bool.not_eq_true'] at hu; rw [hu]; rfl
      · rw [in0_1] at hp hp2; rw [hp, hp2]; simp
      · rw [Bool.not_eq_false'] at hu
        rw [in0_1] at hp2
        exact d55_0 h3 (by omega) fun H4 h4 => ⟨rfl, cndT rfl (d51 h4 (by rw [tot_write0]; omega) fun H5 h5 => ⟨rfl, hyes (by rw [hu, hp2]; simp) _ h5⟩)⟩
      · rw [Bool.not_eq_false'] at hu
        rw [in0_1] at hp
        exact d55_0 h2 (by omega) fun H4 h4 => ⟨rfl, cndT rfl (d51 h4 (by rw [tot_write0]; omega) fun H5 h5 => ⟨rfl, hyes (by rw [hu, hp]; rfl) _ h5⟩)⟩
    · have ec : s.can 9 1 nt = (s.s1.up && s.s1.ph == 1) := by simp [ST.can, ST.upAt, ST.phAt]
      rw [ec] at hno hyes
      refine ⟨by omega, by omega, onPtrI ⟨s.s1.up, m4, cndI (fun hu => cndT rfl (hno ?_ _ h.ext)) (fun hu => is50n_1 h [1] rfl tiny1.1 (fun H2 h2 hp => cndF rfl (cndT rfl (hno ?_ _ h2.ext))) (fun H2 h2 hp => cndF rfl ?_))⟩⟩
      · rw [Bool.not_eq_true'] at hu; rw [hu]; rfl
      · rw [in1_1] at hp; rw [hp]; simp
      · rw [Bool.not_eq_false'] at hu
        rw [in1_1] at hp
        exact d55_1 h2 (by omega) fun H4 h4 => ⟨rfl, cndF rfl (hyes (by rw [hu, hp]; rfl) _ h4)⟩
  · have n1 : op ≠ 1 := by simpa using k1
    have n2 : op ≠ 2 := by simpa using k2
    have n3 : op ≠ 3 := by simpa using k3
    have n4 : op ≠ 4 := by simpa using k4
    have n5 : op ≠ 5 := by simpa using k5
    have n6 : op ≠ 6 := by simpa using k6
    have n7 : op ≠ 7 := by simpa using k7
    have n8 : op ≠ 8 := by simpa using k8
    have n9 : op ≠ 9 := by simpa using k9
    have e1 : s.can op sd nt = true := by simp [ST.can, n1, n2, n3, n4, n5, n6, n7, n8, n9]
    have e2 : s.eff op sd nt = s := by simp [ST.eff, n1, n2, n3, n4, n5, n6, n7, n8, n9]
    exact hyes e1 _ (by rw [e2]; exact h)
end
end Go.Proofs.Ytkkmoeimcedkgaa.Hw
