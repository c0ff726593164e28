/- The pair: an act, whole, in either program. -/
import Derived.Test.YtkkmoeimcedkgaaPj
set_option linter.unusedVariables false
set_option linter.unusedSimpArgs false
namespace Go.Proofs.Ytkkmoeimcedkgaa.Hw
open Go Go.Proofs
section
variable {H0 H H' : Hp} {g bs cS : Nat} {s : ST} {Q : Value → Hp → Prop} {K : Hp → Prop}
def ST.code (s : ST) (op sd nt : Int) : Int := if s.inRange op sd nt then (if s.can op sd nt then 0 else 5) else 21
theorem c30 (h : AS H0 H g bs cS s) {op sd nt : Int} (hN : ∀ n ∈ s.ns, n.1 = 0 ∨ n.1 = 1) (hb : s.tot + 2 < big)
    (hno : s.code op sd nt ≠ 0 → ∀ H', Ext H0 H' → Q (.int .i64 (s.code op sd nt)) H') (hyes : s.inRange op sd nt = true → s.can op sd nt = true → ∀ H', AS H0 H' g bs cS (s.eff op sd nt) → Q (.int .i64 0) H') :
    HCalls Try.prog 30 [.pointer (some ⟨g, 0, none⟩), .agg #[.int .i64 op, .int .i64 sd, .int .i64 nt]] H Q := by
  refine f30.ok g 0 _ _ _ ?_
  unfold f30 jn
  dsimp only
  obtain ⟨A0, n0, c0, A1, n1, c1, An, cn, m0, m1, m2, m3, m4, m5, m6, l0, l1, l2, l3, l4⟩ := h.rd
  have hsm := h.small
  have bad : s.inRange op sd nt = false → Q (.int .i64 21) H := fun hr => by
    have e : s.code op sd nt = 21 := by simp [ST.code, hr]
    have := hno (by rw [e]; decide) H h.ext
    rwa [e] at this
  have st : s.inRange op sd nt = true → s.can op sd nt = false → ∀ H', Ext H0 H' → Q (.int .i64 5) H' := fun hr hc H' hx => by
    have e : s.code op sd nt = 5 := by simp [ST.code, hr, hc]
    have := hno (by rw [e]; decide) H' hx
    rwa [e] at this
  have fin : s.inRange op sd nt = true → ∀ (b : Bool) H', b = s.can op sd nt → (b = false → Ext H0 H') → (b = true → AS H0 H' g bs cS (s.eff op sd nt)) → cnd (!b) (Q (.int .i64 5) H') (Q (.int .i64 0) H') := fun hr b H' hb hx hs => by
    cases b with
    | false => exact st hr hb.symm H' (hx rfl)
    | true => exact hyes hr hb.symm H' (hs rfl)
  have sideop : (op = 6 ∨ op = 7 ∨ op = 9) → cnd (decide (sd < 0)) (Q (.int .i64 21) H) (cnd (decide (sd > 1)) (Q (.int .i64 21) H) (HCalls Try.prog 46 [.pointer (some ⟨g, 0, none⟩), .int .i64 op, .int .i64 sd] H fun v5 H6 => ∃ x7 : Bool, v5 = .bool x7 ∧ cnd (!x7) (Q (.int .i64 5) H6) (Q (.int .i64 0) H6))) := fun hop => by
    have er : s.inRange op sd nt = (decide (0 ≤ sd) && decide (sd ≤ 1)) := by
      unfold ST.inRange
      rcases hop with rfl | rfl | rfl <;> rfl
    refine cndI (fun hs => bad ?_) (fun hs => cndI (fun hs2 => bad ?_) (fun hs2 => ?_))
    · have := of_decide_eq_true hs
      rw [er, decide_eq_false (by omega : ¬ 0 ≤ sd)]; rfl
    · have := of_decide_eq_true hs2
      rw [er, decide_eq_false (by omega : ¬ sd ≤ 1)]; simp
    · have g1 := of_decide_eq_false hs
      have g2 := of_decide_eq_false hs2
      have hr : s.inRange op sd nt = true := by rw [er, decide_eq_true (by omega : 0 ≤ sd), decide_eq_true (by omega : sd ≤ 1)]; rfl
      rcases (by omega : sd = 0 ∨ sd = 1) with rfl | rfl
      · exact c46_0 (nt := nt) h hop hb (fun hc H' hx => ⟨false, rfl, fin hr false H' hc.symm (fun _ => hx) (fun h => by cases h)⟩) (fun hc H' hs => ⟨true, rfl, fin hr true H' hc.symm (fun h => by cases h) (fun _ => hs)⟩)
      · exact c46_1 (nt := nt) h hop hb (fun hc H' hx => ⟨false, rfl, fin hr false H' hc.symm (fun _ => hx) (fun h => by cases h)⟩) (fun hc H' hs => ⟨true, rfl, fin hr true H' hc.symm (fun h => by cases h) (fun _ => hs)⟩)
  refine cndI (fun k6 => cndT k6 ?_) (fun k6 => cndI (fun k7 => cndT k7 ?_) (fun k7 => cndI (fun k9 => ?_) (fun k9 => ?_)))
  · exact sideop (.inl (by simpa using k6))
  · exact sideop (.inr (.inl (by simpa using k7)))
  · exact sideop (.inr (.inr (by simpa using k9)))
  have n6 : op ≠ 6 := by simpa using k6
  have n7 : op ≠ 7 := by simpa using k7
  have n9 : op ≠ 9 := by simpa using k9
  have noteop : (op = 3 ∨ op = 4 ∨ op = 5) → cnd (decide (nt < 0)) (Q (.int .i64 21) H) (∃ (A10 : Option Addr) (n10 c10 : Nat), cl H g ((0 + 0) + 1) = some (.slice A10 n10 c10) ∧ cnd (decide (nt ≥ ((n10 : Nat) : Int))) (Q (.int .i64 21) H) (cnd (op == 3) (HCalls Try.prog 47 [.pointer (some ⟨g, 0, none⟩), .int .i64 nt] H fun v13 H14 => ∃ x15 : Int, v13 = .int .i64 x15 ∧ Q (.int .i64 x15) H14) (cnd (op == 4) (∃ (A16 : Option Addr) (n16 c16 : Nat), cl H g ((0 + 0) + 1) = some (.slice A16 n16 c16) ∧ HCalls Try.prog 48 [.slice A16 n16 c16, .int .i64 nt, .int .i64 (IntKind.i64.wrap (nt + 1))] H fun v17 H18 => ∃ (A19 : Option Addr) (n19 c19 : Nat), v17 = .slice A19 n19 c19 ∧ storeF H18 g ((0 + 0) + 1) [.slice A19 n19 c19] fun H20 => cnd (!true) (Q (.int .i64 5) H20) (Q (.int .i64 0) H20)) (∃ (A21 : Option Addr) (n21 c21 : Nat), cl H g ((0 + 0) + 1) = some (.slice A21 n21 c21) ∧ ∃ (A22 : Option Addr) (n22 c22 : Nat), cl H g ((0 + 0) + 1) = some (.slice A22 n22 c22) ∧ ∃ (A23 : Option Addr) (n23 c23 : Nat), cl H g ((0 + 0) + 1) = some (.slice A23 n23 c23) ∧ 0 ≤ nt ∧ nt < ((n23 : Nat) : Int) ∧ onPtr A23 fun b24 o24 => ∃ x25 : Int, cl H b24 (o24 + nt.toNat * 2) = some (.int .i64 x25) ∧ ∃ x26 : Int, cl H b24 ((o24 + nt.toNat * 2) + 1) = some (.int .i64 x26) ∧ newF H 66 [.int .i64 x25, .int .i64 x26] fun g27 H28 => appendF H28 66 2 16 A22 n22 c22 (some ⟨g27, 0, none⟩) 1 fun A29 n29 c29 H30 => storeF H30 g ((0 + 0) + 1) [.slice A29 n29 c29] fun H31 => cnd (!(decide (((n21 : Nat) : Int) < 20))) (Q (.int .i64 5) H31) (Q (.int .i64 0) H31))))) := fun hop => by
    have er : s.inRange op sd nt = (decide (0 ≤ nt) && decide (nt < s.ns.length)) := by
      unfold ST.inRange
      rcases hop with rfl | rfl | rfl <;> rfl
    refine cndI (fun hs => bad ?_) (fun hs => ⟨_, _, _, m6, cndI (fun hs2 => bad ?_) (fun hs2 => ?_)⟩)
    · have := of_decide_eq_true hs
      rw [er, decide_eq_false (by omega : ¬ 0 ≤ nt)]; rfl
    · have := of_decide_eq_true hs2
      rw [er, decide_eq_false (by omega : ¬ nt < s.ns.length)]; simp
    have g1 := of_decide_eq_false hs
    have g2 := of_decide_eq_false hs2
    have hr : s.inRange op sd nt = true := by rw [er, decide_eq_true (by omega : 0 ≤ nt), decide_eq_true (by omega : nt < s.ns.length)]; rfl
    obtain ⟨i, rfl⟩ : ∃ i : Nat, nt = i := ⟨nt.toNat, by omega⟩
    have hi : i < s.ns.length := by omega
    refine cndI (fun k3 => ?_) (fun k3 => cndI (fun k4 => ?_) (fun k4 => ?_))
    · have : op = 3 := by simpa using k3
      subst this
      exact c47 h rfl hi hN hb (fun hu => ⟨5, rfl, st hr hu H h.ext⟩) (fun hu H' h' => ⟨0, rfl, hyes hr hu H' h'⟩)
    · have : op = 4 := by simpa using k4
      subst this
      obtain ⟨A, cn', q1, q2⟩ := take48 (K := fun H20 => cnd (!true) (Q (.int .i64 5) H20) (Q (.int .i64 0) H20)) h (pi := (i : Int)) (pj := IntKind.i64.wrap ((i : Int) + 1)) hi rfl (by unfold big at hsm; rw [wrap_id (by omega) (by omega)]; omega) (fun H' h' => cndF rfl (hyes hr rfl H' (by
        have e : s.eff 4 sd i = s.take i := by simp [ST.eff]
        rw [e]; exact h')))
      exact ⟨A, _, cn', q1, q2⟩
    · have : op = 5 := by
        have a3 : op ≠ 3 := by simpa using k3
        have a4 : op ≠ 4 := by simpa using k4
        omega
      subst this
      have hg := noteAt_get hi
      obtain ⟨r0, r1, Bn, dn, e0, e1, ha⟩ := h
      have hc1 := ha.cl1
      refine ⟨_, _, _, hc1, _, _, _, hc1, _, _, _, m6, by omega, by omega, rd_note l4 hg fun b o _ k1 k2 => ⟨_, by simpa using k1, _, by simpa using k2, ?_⟩⟩
      refine newF_mono (fun b H' hk => appendF_mono (fun A n c H'' hk => storeF_mono (fun H3 hk => hk) hk) hk) (send (Q := fun _ H31 => cnd (!(decide (((s.ns.length : Nat) : Int) < 20))) (Q (.int .i64 5) H31) (Q (.int .i64 0) H31)) ha (by unfold ST.tot at hb; omega) fun A c H' h' => ?_)
      refine fin hr _ H' ?_ (fun _ => h'.ext) (fun _ => ⟨r0, r1, A, c, e0, e1, h'⟩)
      simp [ST.can]
      omega
  refine cndI (fun k3 => cndT k3 ?_) (fun k3 => cndI (fun k4 => cndT k4 ?_) (fun k4 => cndI (fun k5 => ?_) (fun k5 => ?_)))
  · exact noteop (.inl (by simpa using k3))
  · exact noteop (.inr (.inl (by simpa using k4)))
  · exact noteop (.inr (.inr (by simpa using k5)))
  have n3 : op ≠ 3 := by simpa using k3
  have n4 : op ≠ 4 := by simpa using k4
  have n5 : op ≠ 5 := by simpa using k5
  have hr : s.inRange op sd nt = true := by simp [ST.inRange, n3, n4, n5, n6, n7, n9]
  exact c49 (sd := sd) (nt := nt) h ⟨n3, n4, n5, n6, n7, n9⟩ hb (fun hc H' hx => ⟨false, rfl, fin hr false H' hc.symm (fun _ => hx) (fun h => by cases h)⟩) (fun hc H' hs => ⟨true, rfl, fin hr true H' hc.symm (fun h => by cases h) (fun _ => hs)⟩)
end
end Go.Proofs.Ytkkmoeimcedkgaa.Hw
