/- The pair: an act, in either program. -/
import Derived.Test.YtkkmoeimcedkgaaPh
set_option linter.unusedVariables false
set_option linter.unusedSimpArgs false
namespace Go.Proofs.Ytkkmoeimcedkgaa.Hw
open Go Go.Proofs
section
variable {H0 H H' : Hp} {g bs cS : Nat} {s : ST} {Q : Value → Hp → Prop} {K : Hp → Prop}
theorem in0_1 {s : ST} {p : Int} : s.in0 [p] = (s.s0.ph == p) := by simp [ST.in0]
theorem in1_1 {s : ST} {p : Int} : s.in1 [p] = (s.s1.ph == p) := by simp [ST.in1]
theorem c54 (h : AS H0 H g bs cS s) {k : Int} (hb : s.tot + 2 < big) (hq : ∀ H', AS H0 H' g bs cS (s.lead k) → Q (.tuple #[]) H') : HCalls Try.prog 54 [.pointer (some ⟨g, 0, none⟩), .int .i64 k] H Q := by
  refine f54.ok g 0 k ?_
  unfold f54 jn
  unfold ST.lead ST.refuse at hq
  have h32 : s.in0 [3] = true → s.in0 [2] = false := fun h => by
    rw [in0_1] at h ⊢
    rw [beq_iff_eq] at h
    rw [h]; rfl
  refine cndI (fun k1 => cndT k1 ?_) (fun k1 => cndI (fun k6 => ?_) (fun k6 => cndI (fun k3 => ?_) (fun k3 => ?_)))
  · simp only [k1, if_true] at hq ⊢
    refine is50_0 h [3] rfl tiny1.1 (fun H2 h2 e2 => ?_) (fun H2 h2 e2 => is50_0 h2 [2] rfl tiny1.1 (fun H3 h3 e3 => cndT rfl ?_) (fun H3 h3 e3 => cndF rfl (is50_0 h3 [2] rfl tiny1.1 (fun H4 h4 e4 => ?_) (fun H4 h4 e4 => is50_0 h4 [1, 0] rfl tiny1.2 (fun H5 h5 e5 => ?_) (fun H5 h5 e5 => ?_)))))
    · simp only [h32 e2, e2, if_true, Bool.false_eq_true, if_false] at hq
      exact d51 h2 (by omega) fun H4 h4 => ⟨rfl, hq _ h4⟩
    · simp only [e3, if_true] at hq
      exact d55_0 h3 (by omega) fun H4 h4 => ⟨rfl, d51 h4 (by rw [tot_write0]; omega) fun H5 h5 => ⟨rfl, hq _ h5⟩⟩
    · rw [e4] at e3; cases e3
    · simp only [e2, e3, e5, if_true, Bool.false_eq_true, if_false] at hq
      exact d55_0 h5 (by omega) fun H4 h4 => ⟨rfl, d51 h4 (by rw [tot_write0]; omega) fun H5 h5 => ⟨rfl, hq _ h5⟩⟩
    · simp only [e2, e3, e5, if_true, Bool.false_eq_true, if_false] at hq
      exact d51 h5 (by omega) fun H5 h5 => ⟨rfl, hq _ h5⟩
  · have k3 : (k == 3) = false := by rw [beq_iff_eq] at k6; rw [k6]; rfl
    simp only [k1, k3, k6, if_true, Bool.false_eq_true, if_false] at hq ⊢
    refine is50_0 h [3] rfl tiny1.1 (fun H2 h2 e2 => ?_) (fun H2 h2 e2 => is50_0 h2 [2] rfl tiny1.1 (fun H3 h3 e3 => cndF rfl (is50_0 h3 [2] rfl tiny1.1 (fun H4 h4 e4 => ?_) (fun H4 h4 e4 => ?_))) (fun H3 h3 e3 => cndF rfl (is50_0 h3 [2] rfl tiny1.1 (fun H4 h4 e4 => ?_) (fun H4 h4 e4 => is50_0 h4 [1, 0] rfl tiny1.2 (fun H5 h5 e5 => ?_) (fun H5 h5 e5 => ?_)))))
    · simp only [e2, if_true] at hq
      exact d51 h2 (by omega) fun H4 h4 => ⟨rfl, hq _ h4⟩
    · simp only [e2, e3, if_true, Bool.false_eq_true, if_false] at hq
      exact hq _ h4
    · rw [e3] at e4; cases e4
    · rw [e4] at e3; cases e3
    · simp only [e2, e3, e5, if_true, Bool.false_eq_true, if_false] at hq
      exact d55_0 h5 (by omega) fun H4 h4 => ⟨rfl, d51 h4 (by rw [tot_write0]; omega) fun H5 h5 => ⟨rfl, hq _ h5⟩⟩
    · simp only [e2, e3, e5, if_true, Bool.false_eq_true, if_false] at hq
      exact d51 h5 (by omega) fun H5 h5 => ⟨rfl, hq _ h5⟩
  · simp only [k1, k3, if_true, Bool.false_eq_true, if_false] at hq
    refine is50_0 h [2, 1] rfl tiny1.2 (fun H2 h2 e2 => ?_) (fun H2 h2 e2 => ?_)
    · simp only [e2, if_true] at hq
      exact d55_0 h2 (by omega) fun H4 h4 => ⟨rfl, d51 h4 (by rw [tot_write0]; omega) fun H5 h5 => ⟨rfl, hq _ h5⟩⟩
    · simp only [e2, Bool.false_eq_true, if_false] at hq
      exact hq _ h2
  · simp only [k1, k3, k6, Bool.false_eq_true, if_false] at hq
    exact hq _ h

/-! ### what an act does -/
namespace ST
def upAt (s : ST) (i : Int) : Bool := if i == 0 then s.s0.up else s.s1.up
def phAt (s : ST) (i : Int) : Int := if i == 0 then s.s0.ph else s.s1.ph
def noteAt (s : ST) (i : Int) : Int × Int := s.ns.getD i.toNat (0, 0)
def give (s : ST) (i : Int) : ST := let n := s.noteAt i; let t := s.take i.toNat; if n.1 == 0 then t.lead n.2 else t.part n.2
def stop (s : ST) (i : Int) : ST := if i == 0 then (s.up0 false).ph0 0 else (s.up1 false).ph1 0
def start (s : ST) (i : Int) : ST := if i == 0 then (if decide (0 < s.s0.log.length) then (s.up0 true).ph0 (lastP s.s0.log) else s.up0 true) else (if decide (0 < s.s1.log.length) then (s.up1 true).ph1 (lastP s.s1.log) else s.up1 true)
def drop (s : ST) (i : Int) : ST := if i == 0 then (s.write0 4).send 1 5 else s.write1 4
def can (s : ST) (op sd nt : Int) : Bool :=
  if op == 1 then s.s0.up && s.s1.up && s.s0.ph == 0 && s.s1.ph == 0 && decide (s.s0.log.length = 0) && decide (s.s1.log.length = 0)
  else if op == 2 then s.s0.up && s.s0.ph == 1
  else if op == 3 then s.upAt (s.noteAt nt).1
  else if op == 5 then decide (s.ns.length < 20)
  else if op == 6 then s.upAt sd
  else if op == 7 then !s.upAt sd
  else if op == 8 then s.s1.up && s.s1.ph == 2
  else if op == 9 then s.upAt sd && (s.phAt sd == 1 || (sd == 0 && s.s0.ph == 2))
  else true
def eff (s : ST) (op sd nt : Int) : ST :=
  if op == 1 then (s.ph0 1).ph1 1
  else if op == 2 then (s.ph0 2).send 1 1
  else if op == 3 then s.give nt
  else if op == 4 then s.take nt.toNat
  else if op == 5 then s.send (s.noteAt nt).1 (s.noteAt nt).2
  else if op == 6 then s.stop sd
  else if op == 7 then s.start sd
  else if op == 8 then s.send 0 6
  else if op == 9 then s.drop sd
  else s
def inRange (s : ST) (op sd nt : Int) : Bool :=
  if op == 6 || op == 7 || op == 9 then decide (0 ≤ sd) && decide (sd ≤ 1)
  else if op == 3 || op == 4 || op == 5 then decide (0 ≤ nt) && decide (nt < s.ns.length)
  else true
end ST
theorem noteAt_get {s : ST} {i : Nat} (h : i < s.ns.length) : s.ns[i]? = some (s.noteAt i) := by
  unfold ST.noteAt
  rw [Int.toNat_natCast, List.getD_eq_getElem?_getD, List.getElem?_eq_getElem h]; rfl
theorem tot_take {s : ST} {i : Nat} : (s.take i).tot ≤ s.tot := by
  unfold ST.take ST.tot
  simp only
  rw [List.length_eraseIdx]; split <;> omega
theorem AS.len (h : AS H0 H g bs cS s) : True := trivial
theorem c47 (h : AS H0 H g bs cS s) {i : Nat} {pi : Int} (hpi : pi = i) (hi : i < s.ns.length) (hN : ∀ n ∈ s.ns, n.1 = 0 ∨ n.1 = 1) (hb : s.tot + 2 < big)
    (hno : s.upAt (s.noteAt pi).1 = false → Q (.int .i64 5) H) (hq : s.upAt (s.noteAt pi).1 = true → ∀ H', AS H0 H' g bs cS (s.give pi) → Q (.int .i64 0) H') : HCalls Try.prog 47 [.pointer (some ⟨g, 0, none⟩), .int .i64 pi] H Q := by
  refine f47.ok g 0 _ ?_
  unfold f47 jn
  subst hpi
  obtain ⟨A0, n0, c0, A1, n1, c1, An, cn, m0, m1, m2, m3, m4, m5, m6, l0, l1, l2, l3, l4⟩ := h.rd
  have hg := noteAt_get hi
  have hto := hN _ (List.mem_of_getElem? hg)
  have hsm := h.small
  unfold big at hsm
  refine ⟨_, _, _, m6, by omega, by omega, rd_note l4 hg fun b o _ k1 k2 => ⟨_, by simpa using k1, _, by simpa using k2, _, _, _, h.cl0, ?_⟩⟩
  obtain ⟨A, cn', q1, q2⟩ := take48 (K := fun H12 => cnd ((s.noteAt i).1 == 0) (HCalls Try.prog 64 [.pointer (some ⟨g, 0, none⟩), .int .i64 (s.noteAt i).2] H12 fun v13 H14 => v13 = .tuple #[] ∧ (s.upAt (s.noteAt i).1 = true → Q (.int .i64 0) H14)) (HCalls Try.prog 65 [.pointer (some ⟨g, 0, none⟩), .int .i64 (s.noteAt i).2] H12 fun v15 H16 => v15 = .tuple #[] ∧ (s.upAt (s.noteAt i).1 = true → Q (.int .i64 0) H16))) h (pi := (i : Int)) (pj := IntKind.i64.wrap ((i : Int) + 1)) hi rfl (by rw [wrap_id (by omega) (by omega)]; omega) (fun H12 h12 => by
    have ht := tot_take (s := s) (i := i)
    unfold ST.give at hq
    simp only [Int.toNat_natCast] at hq
    refine cndI (fun e => c64 h12 (by omega) fun H14 h14 => ⟨rfl, fun hu => ?_⟩) (fun e => c65 h12 (by omega) fun H14 h14 => ⟨rfl, fun hu => ?_⟩)
    · simp only [e, if_true] at hq
      exact hq hu _ h14
    · simp only [e, Bool.false_eq_true, if_false] at hq
      exact hq hu _ h14)
  rw [m6] at q1
  cases q1
  have fin : s.upAt (s.noteAt i).1 = true → ∃ (A8 : Option Addr) (n8 c8 : Nat), cl H g ((0 + 0) + 1) = some (.slice A8 n8 c8) ∧ HCalls Try.prog 48 [.slice A8 n8 c8, .int .i64 (i : Int), .int .i64 (IntKind.i64.wrap ((i : Int) + 1))] H fun v9 H10 => ∃ (A11 : Option Addr) (n11 c11 : Nat), v9 = .slice A11 n11 c11 ∧ storeF H10 g ((0 + 0) + 1) [.slice A11 n11 c11] fun H12 => cnd ((s.noteAt i).1 == 0) (HCalls Try.prog 64 [.pointer (some ⟨g, 0, none⟩), .int .i64 (s.noteAt i).2] H12 fun v13 H14 => v13 = .tuple #[] ∧ Q (.int .i64 0) H14) (HCalls Try.prog 65 [.pointer (some ⟨g, 0, none⟩), .int .i64 (s.noteAt i).2] H12 fun v15 H16 => v15 = .tuple #[] ∧ Q (.int .i64 0) H16) := fun hu =>
    ⟨_, _, _, m6, q2.mono fun v H10 ⟨A11, n11, c11, e1, e2⟩ => ⟨A11, n11, c11, e1, storeF_mono (fun H12 e3 => by
      revert e3
      cases ((s.noteAt i).1 == 0)
      · exact fun e3 => HCalls.mono e3 fun v H h => ⟨h.1, h.2 hu⟩
      · exact fun e3 => HCalls.mono e3 fun v H h => ⟨h.1, h.2 hu⟩) e2⟩⟩
  rcases hto with hto | hto
  · have e : s.upAt (s.noteAt i).1 = s.s0.up := by rw [hto]; rfl
    rw [e] at hno
    have fin' := fun hu => fin (e.trans hu)
    rw [hto] at fin' ⊢
    exact ⟨by omega, by omega, onPtrI ⟨s.s0.up, m1, cndI (fun hu => hno (by simpa using hu)) (fun hu => fin' (by simpa using hu))⟩⟩
  · have e : s.upAt (s.noteAt i).1 = s.s1.up := by rw [hto]; rfl
    rw [e] at hno
    have fin' := fun hu => fin (e.trans hu)
    rw [hto] at fin' ⊢
    exact ⟨by omega, by omega, onPtrI ⟨s.s1.up, m4, cndI (fun hu => hno (by simpa using hu)) (fun hu => fin' (by simpa using hu))⟩⟩
end
end Go.Proofs.Ytkkmoeimcedkgaa.Hw
