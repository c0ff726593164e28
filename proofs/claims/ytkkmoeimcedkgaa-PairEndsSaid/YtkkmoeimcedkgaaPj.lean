/- The pair: acts on a side, and the plain ones. -/
import Derived.Test.YtkkmoeimcedkgaaPi
set_option linter.unusedVariables false
set_option linter.unusedSimpArgs false
namespace Go.Proofs.Ytkkmoeimcedkgaa.Hw
open Go Go.Proofs
section
variable {H0 H H' : Hp} {g bs cS : Nat} {s : ST} {Q : Value → Hp → Prop} {K : Hp → Prop}
theorem len_pred {n : Nat} (h : n < big) (h0 : 0 < n) : IntKind.i64.wrap (((n : Nat) : Int) - 1) = ((n - 1 : Nat) : Int) := by
  unfold big at h
  rw [wrap_id (by omega) (by omega)]; omega
theorem c46_0 (h : AS H0 H g bs cS s) {op nt : Int} (hop : op = 6 ∨ op = 7 ∨ op = 9) (hb : s.tot + 2 < big)
    (hno : s.can op 0 nt = false → ∀ H', Ext H0 H' → Q (.bool false) H') (hyes : s.can op 0 nt = true → ∀ H', AS H0 H' g bs cS (s.eff op 0 nt) → Q (.bool true) H') : HCalls Try.prog 46 [.pointer (some ⟨g, 0, none⟩), .int .i64 op, .int .i64 0] H Q := by
  refine f46.ok g 0 _ _ ?_
  unfold f46 jn
  obtain ⟨A0, n0, c0, A1, n1, c1, An, cn, m0, m1, m2, m3, m4, m5, m6, l0, l1, l2, l3, l4⟩ := h.rd
  have hsm := h.small
  refine ⟨_, _, _, h.cl0, by omega, by omega, onPtrI ?_⟩
  rcases hop with rfl | rfl | rfl
  · refine cndT rfl ⟨s.s0.up, m1, cndI (fun hu => hno ?_ _ h.ext) (fun hu => stUp0 h fun H4 h4 => stPh0 h4 fun H5 h5 => hyes ?_ _ h5)⟩
    · simpa [ST.can, ST.upAt] using hu
    · simpa [ST.can, ST.upAt] using hu
  · refine cndF rfl (cndT rfl ⟨s.s0.up, m1, cndI (fun hu => hno ?_ _ h.ext) (fun hu => stUp0 h fun H7 h7 => ?_)⟩)
    · simpa [ST.can, ST.upAt] using hu
    · replace hyes := hyes (by simpa [ST.can, ST.upAt] using hu)
      obtain ⟨B0, p0, d0, B1, p1, d1, Bn, dn, u0, u1, u2, u3, u4, u5, u6, v0, v1, v2, v3, v4⟩ := h7.rd
      have hl : (s.up0 true).s0.log = s.s0.log := rfl
      rw [hl] at v0 v2
      subst v0
      refine ⟨_, _, _, u2, cndI (fun hn => ?_) (fun hn => ?_)⟩
      · have hn' : 0 < s.s0.log.length := by have := of_decide_eq_true hn; omega
        refine ⟨_, _, _, u2, ?_⟩
        rw [len_pred hsm.1 hn']
        refine ⟨by omega, by omega, rd_ints v2 (lastP_get hn') fun b o _ hc => ⟨_, by simpa using hc, stPh0 h7 fun H8 h8 => hyes _ ?_⟩⟩
        have e : s.eff 7 0 nt = (s.up0 true).ph0 (lastP s.s0.log) := by
          show s.start 0 = _
          unfold ST.start
          simp [hn']
        rw [e]; exact h8
      · refine hyes _ ?_
        have e : s.eff 7 0 nt = s.up0 true := by
          show s.start 0 = _
          unfold ST.start
          have := of_decide_eq_false hn
          have : ¬ 0 < s.s0.log.length := by omega
          simp [this]
        rw [e]; exact h7
  · refine cndF rfl (cndF rfl (cndT rfl ?_))
    have yes : s.can 9 0 nt = true → HCalls Try.prog 62 [.pointer (some ⟨g, 0, none⟩), .int .i64 0, .int .i64 4] H fun v18 H19 => v18 = .tuple #[] ∧ cnd ((0 : Int) == 0) (HCalls Try.prog 63 [.pointer (some ⟨g, 0, none⟩), .int .i64 1, .int .i64 5] H19 fun v20 H21 => v20 = .tuple #[] ∧ Q (.bool true) H21) (Q (.bool true) H19) := fun hc =>
      d62_0 h (by omega) fun H3 h3 => ⟨rfl, cndT rfl (d63 h3 (by rw [tot_write0]; omega) fun H4 h4 => ⟨rfl, hyes hc _ h4⟩)⟩
    have ec : s.can 9 0 nt = (s.s0.up && (s.s0.ph == 1 || s.s0.ph == 2)) := by simp [ST.can, ST.upAt, ST.phAt]
    rw [ec] at yes hno
    refine ⟨s.s0.up, m1, cndI (fun hu => cndT rfl (hno ?_ _ h.ext)) (fun hu => ⟨s.s0.ph, m0, cndI (fun hp => cndF rfl (yes ?_)) (fun hp => cndT rfl ⟨s.s0.ph, m0, cndI (fun hp2 => hno ?_ _ h.ext) (fun hp2 => yes ?_)⟩)⟩)⟩
    · rw [Bool.not_eq_true'] at hu; rw [hu]; rfl
    · rw [Bool.not_eq_false'] at hu; rw [hu, hp]; rfl
    · rw [Bool.not_eq_true'] at hp2; rw [hp, hp2]; simp
    · rw [Bool.not_eq_false'] at hu hp2; rw [hu, hp, hp2]; rfl
theorem c46_1 (h : AS H0 H g bs cS s) {op nt : Int} (hop : op = 6 ∨ op = 7 ∨ op = 9) (hb : s.tot + 2 < big)
    (hno : s.can op 1 nt = false → ∀ H', Ext H0 H' → Q (.bool false) H') (hyes : s.can op 1 nt = true → ∀ H', AS H0 H' g bs cS (s.eff op 1 nt) → Q (.bool true) H') : HCalls Try.prog 46 [.pointer (some ⟨g, 0, none⟩), .int .i64 op, .int .i64 1] H Q := by
  refine f46.ok g 0 _ _ ?_
  unfold f46 jn
  obtain ⟨A0, n0, c0, A1, n1, c1, An, cn, m0, m1, m2, m3, m4, m5, m6, l0, l1, l2, l3, l4⟩ := h.rd
  have hsm := h.small
  refine ⟨_, _, _, h.cl0, by omega, by omega, onPtrI ?_⟩
  rcases hop with rfl | rfl | rfl
  · refine cndT rfl ⟨s.s1.up, m4, cndI (fun hu => hno ?_ _ h.ext) (fun hu => stUp1 h fun H4 h4 => stPh1 h4 fun H5 h5 => hyes ?_ _ h5)⟩
    · simpa [ST.can, ST.upAt] using hu
    · simpa [ST.can, ST.upAt] using hu
  · refine cndF rfl (cndT rfl ⟨s.s1.up, m4, cndI (fun hu => hno ?_ _ h.ext) (fun hu => stUp1 h fun H7 h7 => ?_)⟩)
    · simpa [ST.can, ST.upAt] using hu
    · replace hyes := hyes (by simpa [ST.can, ST.upAt] using hu)
      obtain ⟨B0, p0, d0, B1, p1, d1, Bn, dn, u0, u1, u2, u3, u4, u5, u6, v0, v1, v2, v3, v4⟩ := h7.rd
      have hl : (s.up1 true).s1.log = s.s1.log := rfl
      rw [hl] at v1 v3
      subst v1
      refine ⟨_, _, _, u5, cndI (fun hn => ?_) (fun hn => ?_)⟩
      · have hn' : 0 < s.s1.log.length := by have := of_decide_eq_true hn; omega
        refine ⟨_, _, _, u5, ?_⟩
        rw [len_pred hsm.2.1 hn']
        refine ⟨by omega, by omega, rd_ints v3 (lastP_get hn') fun b o _ hc => ⟨_, by simpa using hc, stPh1 h7 fun H8 h8 => hyes _ ?_⟩⟩
        have e : s.eff 7 1 nt = (s.up1 true).ph1 (lastP s.s1.log) := by
          show s.start 1 = _
          unfold ST.start
          simp [hn']
        rw [e]; exact h8
      · refine hyes _ ?_
        have e : s.eff 7 1 nt = s.up1 true := by
          show s.start 1 = _
          unfold ST.start
          have := of_decide_eq_false hn
          have : ¬ 0 < s.s1.log.length := by omega
          simp [this]
        rw [e]; exact h7
  · refine cndF rfl (cndF rfl (cndT rfl ?_))
    have yes : s.can 9 1 nt = true → HCalls Try.prog 62 [.pointer (some ⟨g, 0, none⟩), .int .i64 1, .int .i64 4] H fun v18 H19 => v18 = .tuple #[] ∧ cnd ((1 : Int) == 0) (HCalls Try.prog 63 [.pointer (some ⟨g, 0, none⟩), .int .i64 1, .int .i64 5] H19 fun v20 H21 => v20 = .tuple #[] ∧ Q (.bool true) H21) (Q (.bool true) H19) := fun hc =>
      d62_1 h (by omega) fun H3 h3 => ⟨rfl, cndF rfl (hyes hc _ h3)⟩
    have ec : s.can 9 1 nt = (s.s1.up && s.s1.ph == 1) := by simp [ST.can, ST.upAt, ST.phAt]
    rw [ec] at yes hno
    refine ⟨s.s1.up, m4, cndI (fun hu => cndT rfl (hno ?_ _ h.ext)) (fun hu => ⟨s.s1.ph, m3, cndI (fun hp => cndF rfl (yes ?_)) (fun hp => cndF rfl (cndT rfl (hno ?_ _ h.ext)))⟩)⟩
    · rw [Bool.not_eq_true'] at hu; rw [hu]; rfl
    · rw [Bool.not_eq_false'] at hu; rw [hu, hp]; rfl
    · rw [hp]; simp
/-- 'is' with a negation behind it. -/
theorem is66n_0 (h : AS H0 H g bs cS s) (l : List Int) {n c : Nat} (hl : n = l.length) (hb : l.length < big) {A B : Hp → Prop} (hA : ∀ H2, AS H0 H2 g bs cS s → s.in0 l = false → A H2) (hB : ∀ H2, AS H0 H2 g bs cS s → s.in0 l = true → B H2) :
    newF H 50 (ints l) fun g1 H2 => HCalls Try.prog 66 [.pointer (some ⟨g, 0, none⟩), .int .i64 0, .slice (some ⟨g1, 0, none⟩) n c] H2 fun v H4 => ∃ x : Bool, v = .bool x ∧ cnd (!x) (A H4) (B H4) := by
  obtain ⟨r0, r1, An, cn, h0, h1, h⟩ := h
  intro g1 hg1
  have e : s.in0 l = l.any (r0.ph == ·) := by unfold ST.in0; rw [← h0]; rfl
  have hs : AS H0 (upd g1 (.cells (ints l).toArray 50 (0, 0)) H) g bs cS s := ⟨r0, r1, An, cn, h0, h1, h.fresh hg1⟩
  exact c66_0 (h.fresh hg1) cellN hl hb ⟨_, rfl, by
    rw [← e]
    exact cndI (fun h => hA _ hs (by rwa [Bool.not_eq_true'] at h)) (fun h => hB _ hs (by rwa [Bool.not_eq_false'] at h))⟩
theorem is66n_1 (h : AS H0 H g bs cS s) (l : List Int) {n c : Nat} (hl : n = l.length) (hb : l.length < big) {A B : Hp → Prop} (hA : ∀ H2, AS H0 H2 g bs cS s → s.in1 l = false → A H2) (hB : ∀ H2, AS H0 H2 g bs cS s → s.in1 l = true → B H2) :
    newF H 50 (ints l) fun g1 H2 => HCalls Try.prog 66 [.pointer (some ⟨g, 0, none⟩), .int .i64 1, .slice (some ⟨g1, 0, none⟩) n c] H2 fun v H4 => ∃ x : Bool, v = .bool x ∧ cnd (!x) (A H4) (B H4) := by
  obtain ⟨r0, r1, An, cn, h0, h1, h⟩ := h
  intro g1 hg1
  have e : s.in1 l = l.any (r1.ph == ·) := by unfold ST.in1; rw [← h1]; rfl
  have hs : AS H0 (upd g1 (.cells (ints l).toArray 50 (0, 0)) H) g bs cS s := ⟨r0, r1, An, cn, h0, h1, h.fresh hg1⟩
  exact c66_1 (h.fresh hg1) cellN hl hb ⟨_, rfl, by
    rw [← e]
    exact cndI (fun h => hA _ hs (by rwa [Bool.not_eq_true'] at h)) (fun h => hB _ hs (by rwa [Bool.not_eq_false'] at h))⟩
theorem is50n_0 (h : AS H0 H g bs cS s) (l : List Int) {n c : Nat} (hl : n = l.length) (hb : l.length < big) {A B : Hp → Prop} (hA : ∀ H2, AS H0 H2 g bs cS s → s.in0 l = false → A H2) (hB : ∀ H2, AS H0 H2 g bs cS s → s.in0 l = true → B H2) :
    newF H 50 (ints l) fun g1 H2 => HCalls Try.prog 50 [.pointer (some ⟨g, 0, none⟩), .int .i64 0, .slice (some ⟨g1, 0, none⟩) n c] H2 fun v H4 => ∃ x : Bool, v = .bool x ∧ cnd (!x) (A H4) (B H4) := by
  obtain ⟨r0, r1, An, cn, h0, h1, h⟩ := h
  intro g1 hg1
  have e : s.in0 l = l.any (r0.ph == ·) := by unfold ST.in0; rw [← h0]; rfl
  have hs : AS H0 (upd g1 (.cells (ints l).toArray 50 (0, 0)) H) g bs cS s := ⟨r0, r1, An, cn, h0, h1, h.fresh hg1⟩
  exact c50_0 (h.fresh hg1) cellN hl hb ⟨_, rfl, by
    rw [← e]
    exact cndI (fun h => hA _ hs (by rwa [Bool.not_eq_true'] at h)) (fun h => hB _ hs (by rwa [Bool.not_eq_false'] at h))⟩
theorem is50n_1 (h : AS H0 H g bs cS s) (l : List Int) {n c : Nat} (hl : n = l.length) (hb : l.length < big) {A B : Hp → Prop} (hA : ∀ H2, AS H0 H2 g bs cS s → s.in1 l = false → A H2) (hB : ∀ H2, AS H0 H2 g bs cS s → s.in1 l = true → B H2) :
    newF H 50 (ints l) fun g1 H2 => HCalls Try.prog 50 [.pointer (some ⟨g, 0, none⟩), .int .i64 1, .slice (some ⟨g1, 0, none⟩) n c] H2 fun v H4 => ∃ x : Bool, v = .bool x ∧ cnd (!x) (A H4) (B H4) := by
  obtain ⟨r0, r1, An, cn, h0, h1, h⟩ := h
  intro g1 hg1
  have e : s.in1 l = l.any (r1.ph == ·) := by unfold ST.in1; rw [← h1]; rfl
  have hs : AS H0 (upd g1 (.cells (ints l).toArray 50 (0, 0)) H) g bs cS s := ⟨r0, r1, An, cn, h0, h1, h.fresh hg1⟩
  exact c50_1 (h.fresh hg1) cellN hl hb ⟨_, rfl, by
    rw [← e]
    exact cndI (fun h => hA _ hs (by rwa [Bool.not_eq_true'] at h)) (fun h => hB _ hs (by rwa [Bool.not_eq_false'] at h))⟩
theorem c49 (h : AS H0 H g bs cS s) {op sd nt : Int} (hop : op ≠ 3 ∧ op ≠ 4 ∧ op ≠ 5 ∧ op ≠ 6 ∧ op ≠ 7 ∧ op ≠ 9) (hb : s.tot + 2 < big)
    (hno : s.can op sd nt = false → ∀ H', Ext H0 H' → Q (.bool false) H') (hyes : s.can op sd nt = true → ∀ H', AS H0 H' g bs cS (s.eff op sd nt) → Q (.bool true) H') : HCalls Try.prog 49 [.pointer (some ⟨g, 0, none⟩), .int .i64 op] H Q := by
  refine f49.ok g 0 _ ?_
  unfold f49 jn
  dsimp only
  obtain ⟨A0, n0, c0, A1, n1, c1, An, cn, m0, m1, m2, m3, m4, m5, m6, l0, l1, l2, l3, l4⟩ := h.rd
  have hsm := h.small
  refine cndI (fun k1 => ?_) (fun k1 => cndI (fun k2 => ?_) (fun k2 => cndI (fun k8 => ?_) (fun k8 => ?_)))
  · rw [beq_iff_eq] at k1
    subst k1
    obtain ⟨r0, r1, Bn, dn, e0, e1, ha⟩ := h
    have hp := ha.pair
    have ec : s.can 1 sd nt = [r0, r1].all (fun r => r.up && r.ph == 0 && decide (r.log.length = 0)) := by
      unfold ST.can
      rw [← e0, ← e1]
      simp only [beq_self_eq_true, if_true, RS.side, List.all_cons, List.all_nil, Bool.and_true]
      rw [Bool.eq_iff_iff]
      simp only [Bool.and_eq_true, decide_eq_true_eq]
      constructor
      · rintro ⟨⟨⟨⟨⟨a, b⟩, c⟩, d⟩, e⟩, f⟩; exact ⟨⟨⟨a, c⟩, of_decide_eq_true e⟩, ⟨b, d⟩, of_decide_eq_true f⟩
      · rintro ⟨⟨⟨a, c⟩, e⟩, ⟨b, d⟩, f⟩; exact ⟨⟨⟨⟨⟨a, b⟩, c⟩, d⟩, decide_eq_true e⟩, decide_eq_true f⟩
    refine ⟨_, _, _, ha.cl0, scan (n := 2) (by omega) (fun i H' => H' = H ∧ ([r0, r1].take i).all (fun r => r.up && r.ph == 0 && decide (r.log.length = 0)) = true) ⟨rfl, by simp⟩ ?_ ?_⟩
    · rintro i H next hi ⟨rfl, hI⟩ hnext
      obtain ⟨r, hx⟩ : ∃ r, [r0, r1][i]? = some r := ⟨_, List.getElem?_eq_getElem hi⟩
      have hxl := hp.sides.logs r (List.mem_of_getElem? hx)
      have no : (r.up && r.ph == 0 && decide (r.log.length = 0)) = false → Q (.bool false) H := fun e => hno (by rw [ec]; exact all_miss (g := fun r => r.up && r.ph == 0 && decide (r.log.length = 0)) hx e) _ ha.ext
      refine cndT (by simp; omega) ⟨by simp, by simp; omega, rd_side hp.sides hx fun b o _ q1 q2 q3 => ⟨r.ph, by simpa using q1, r.up, by simpa using q2, r.A, r.n, r.c, by simpa using q3, cndI (fun hu => cndT rfl (no ?_)) (fun hu => cndI (fun hp => cndT rfl (no ?_)) (fun hp => cndI (fun hn => no ?_) (fun hn => ⟨rfl, hnext _ ⟨rfl, ?_⟩⟩)))⟩⟩
      · rw [Bool.not_eq_true'] at hu; rw [hu]; rfl
      · have : (r.ph == 0) = false := by simpa using hp
        rw [this]; simp
      · have : ¬ r.log.length = 0 := by have := of_decide_eq_true hn; have := hxl.1; omega
        rw [decide_eq_false this]; simp
      · rw [Bool.not_eq_false'] at hu
        have h2 : (r.ph == 0) = true := by simpa using hp
        have h3 : r.log.length = 0 := by have := of_decide_eq_false hn; have := hxl.1; omega
        rw [all_take_succ hx, hI, hu, h2, decide_eq_true h3]; rfl
    · rintro H next ⟨rfl, hI⟩
      have h : AS H0 H g bs cS s := ⟨r0, r1, Bn, dn, e0, e1, ha⟩
      refine cndF (by simp) ⟨_, _, _, ha.cl0, _, _, _, ha.cl0, by omega, by omega, onPtrI (stPh0 h fun H14 h14 => ⟨by omega, by omega, onPtrI (stPh1 h14 fun H16 h16 => hyes ?_ _ h16)⟩)⟩
      rw [ec]; exact all_done (l := [r0, r1]) hI
  · rw [beq_iff_eq] at k2
    subst k2
    have ec : s.can 2 sd nt = (s.s0.up && s.s0.ph == 1) := rfl
    rw [ec] at hno hyes
    refine ⟨_, _, _, h.cl0, by omega, by omega, onPtrI ⟨s.s0.up, m1, cndI (fun hu => cndT rfl (hno ?_ _ h.ext)) (fun hu => is66n_0 h [1] rfl tiny1.1 (fun H2 h2 hp => hno ?_ _ h2.ext) (fun H2 h2 hp => ⟨_, _, _, h2.cl0, by omega, by omega, onPtrI (stPh0 h2 fun H3 h3 => d63 h3 (by unfold ST.ph0 ST.tot at *; simp only at *; omega) fun H4 h4 => ⟨rfl, hyes ?_ _ h4⟩)⟩))⟩⟩
    · rw [Bool.not_eq_true'] at hu; rw [hu]; rfl
    · rw [in0_1] at hp; rw [hp]; simp
    · rw [Bool.not_eq_false'] at hu
      rw [in0_1] at hp; rw [hu, hp]; rfl
  · rw [beq_iff_eq] at k8
    subst k8
    have ec : s.can 8 sd nt = (s.s1.up && s.s1.ph == 2) := rfl
    rw [ec] at hno hyes
    refine ⟨_, _, _, h.cl0, by omega, by omega, onPtrI ⟨s.s1.up, m4, cndI (fun hu => cndT rfl (hno ?_ _ h.ext)) (fun hu => is66n_1 h [2] rfl tiny1.1 (fun H2 h2 hp => hno ?_ _ h2.ext) (fun H2 h2 hp => d63 h2 (by omega) fun H4 h4 => ⟨rfl, hyes ?_ _ h4⟩))⟩⟩
    · rw [Bool.not_eq_true'] at hu; rw [hu]; rfl
    · rw [in1_1] at hp; rw [hp]; simp
    · rw [Bool.not_eq_false'] at hu
      rw [in1_1] at hp; rw [hu, hp]; rfl
  · obtain ⟨o3, o4, o5, o6, o7, o9⟩ := hop
    rw [beq_eq_false_iff_ne] at k1 k2 k8
    have e1 : s.can op sd nt = true := by simp [ST.can, k1, k2, k8, o3, o4, o5, o6, o7, o9]
    have e2 : s.eff op sd nt = s := by simp [ST.eff, k1, k2, k8, o3, o4, o5, o6, o7, o9]
    exact hyes e1 _ (by rw [e2]; exact h)
end
end Go.Proofs.Ytkkmoeimcedkgaa.Hw
