/- The law PairEnds: its function returns true, for all acts that come in. -/
import Derived.Test.YtkkmoeimcedkgaaRa
set_option linter.unusedVariables false
set_option linter.unusedSimpArgs false
namespace Go.Proofs.Ytkkmoeimcedkgaa.Hw
open Go Go.Proofs
theorem Rep.at {q : PS} : ∀ {l : List Act3} {p : PS} {i : Nat} {a : Act3}, Rep p l q → l[i]? = some a → code3 (runP p (l.take i)) a = 0
  | b :: r, p, 0, a, h, hi => by
    simp only [List.getElem?_cons_zero, Option.some.injEq] at hi
    subst hi
    exact h.1
  | b :: r, p, i + 1, a, h, hi => by
    have e : stepP p b = pair3 p b := if_pos h.1
    rw [List.take_succ_cons]
    show code3 (runP (stepP p b) (r.take i)) a = 0
    rw [e]
    exact Rep.at h.2 hi
theorem Rep.run {q : PS} : ∀ {l : List Act3} {p : PS}, Rep p l q → runP p l = q
  | [], p, h => h
  | a :: r, p, h => by
    have e : stepP p a = pair3 p a := if_pos h.1
    show runP (stepP p a) r = q
    rw [e]
    exact Rep.run h.2
section
variable {H0 H H' : Hp} {Q : Value → Hp → Prop}
theorem c6 {A : Option Addr} {n c : Nat} {l : List Act3} (hA : ActsAt H A n l) (hq : ∀ H', Ext H H' → Q (.bool true) H') : HCalls Try.prog 6 [.slice A n c] H Q := by
  refine f6.ok _ _ _ ?_
  unfold f6
  obtain rfl := hA.len
  refine cndI (fun h => c9 fun H' hx => ⟨_, rfl, hq _ hx⟩) (fun h => ?_)
  have hl : l.length ≤ 300 := by simp at h; omega
  refine c22 hA (by omega) fun A6 n6 c6 A7 n7 c7 B8 c8 H5 l5 ns5 x5 hp5 e5 _ => ⟨_, _, _, _, _, _, _, _, _, rfl, ?_⟩
  have hinv : InvP (runP newP l) := InvP.run InvP.new
  have hsz : sizeP (psOf l5 ns5) < 1000000 := by
    rw [e5]
    have := run_size (p := newP) (l := l)
    have h2 : sizeP newP = 2 := by decide
    omega
  generalize runP newP l = p at hinv e5
  obtain ⟨hok, hset, hlen⟩ := calm_all hinv
  have hform := hinv.formed
  rw [← e5] at hform
  refine c20 hp5 hsz (fun hf => by rw [hf] at hform; cases hform) fun _ B d H10 x10 hB => ⟨_, _, _, _, rfl, ?_⟩
  rw [e5] at hB ⊢
  obtain ⟨first, rest, hacts, hfirst, hrest⟩ := hok.acts
  have hrep := hok.rep
  generalize hgen : (calmM p).2 = acts at hB hlen hacts hrep ⊢
  have hAct : ActsAt H10 B acts.length acts := ⟨rfl, hB⟩
  refine jn_intro (fun J => J false) ?_ fun J14 h14 => cndF rfl (by rw [decide_eq_false (by omega)]; exact h14)
  refine cndF rfl ?_
  refine loop_to acts.length (fun i s H' => ∃ B0 m0 d0 B1 m1 d1 lr ns, s = ((decide (first.length < i), ((i : Int), ())), (((B0, m0, d0), ((B1, m1, d1), ())), ())) ∧ Ext H10 H' ∧ PairAt H' B0 m0 B1 m1 lr ns ∧ psOf lr ns = runP p (acts.take i))
    ⟨A6, n6, c6, A7, n7, c7, l5, ns5, by simp, Ext.refl _, hp5.ext x10, by simpa [runP] using e5⟩ ?_
  rintro i s H16 next hi ⟨B0, m0, d0, B1, m1, d1, lr, ns, rfl, x16, hp16, e16⟩ hnext
  dsimp only
  by_cases hil : i < acts.length
  rotate_left
  · obtain rfl : i = acts.length := by omega
    rw [List.take_length, hrep.run] at e16
    refine cndF (by simp) (c18 hp16 ⟨_, _, rfl, ?_⟩)
    have hs : settledQ (psOf lr ns) = (true, 0) := by
      rw [e16]
      unfold settledQ
      rw [if_pos hok.inv.formed]
      exact congrArg (fun b => (b, (0 : Int))) hset
    rw [hs]
    unfold jn
    refine cndT rfl (cndT rfl (c9 fun H' hx => ⟨_, rfl, hq _ (((x5.trans x10).trans x16).trans hx)⟩))
  obtain ⟨a, ha⟩ : ∃ a, acts[i]? = some a := ⟨_, List.getElem?_eq_getElem hil⟩
  have htk : acts.take (i + 1) = acts.take i ++ [a] := by rw [List.take_add_one, ha]; rfl
  have hc : doCode (psOf lr ns) a.1 a.2.1 a.2.2 = 0 := by
    rw [e16]; exact hrep.at ha
  refine cndT (by simpa using hil) ⟨by simp, by simpa using hil, rd_act (hAct.ext x16) ha fun b o _ k1 k2 k3 => ⟨a.1, by simpa using k1, a.2.1, by simpa using k2, a.2.2, by simpa using k3, ?_⟩⟩
  refine jn_intro (fun J => J (decide (first.length < i + 1))) ?_ fun J25 h25 => ?_
  · have sz : partsP lr ns + 2 < big := by
      rw [← sizeP_ps, e16]
      have := run_size (p := p) (l := acts.take i)
      have h2 : (acts.take i).length ≤ acts.length := by rw [List.length_take]; omega
      rw [e5] at hsz
      unfold big; omega
    refine c11 hp16 sz fun C k e C' k' e' H27 l2 ns2 x27 hp27 e27 => ⟨_, _, _, _, _, _, _, rfl, cndF (by rw [hc]; rfl) ⟨rfl, ?_⟩⟩
    rw [wrap_id (by omega) (by omega)]
    refine hnext _ _ hil ⟨C, k, e, C', k', e', l2, ns2, rfl, x16.trans x27, hp27, ?_⟩
    rw [htk, runP_snoc, ← e16, e27]
    unfold stepP
    rw [if_pos hc]
  · by_cases hif : i < first.length
    · have hs : a.1 = 7 := by
        rw [hacts, List.getElem?_append_left hif] at ha
        have := List.all_eq_true.1 hfirst a (List.mem_of_getElem? ha)
        simpa [isStart] using this
      rw [decide_eq_false (by omega)] at h25
      rw [decide_eq_false (by omega)]
      exact cndT (by rw [hs]; rfl) (cndF rfl h25)
    · have hs : a.1 = 3 ∨ a.1 = 2 ∨ a.1 = 8 ∨ a.1 = 9 := by
        rw [hacts, List.getElem?_append_right (by omega)] at ha
        have := List.all_eq_true.1 hrest a (List.mem_of_getElem? ha)
        simpa [isCalm, or_assoc] using this
      rw [decide_eq_true (by omega)] at h25
      refine cndF (by rcases hs with h | h | h | h <;> rw [h] <;> rfl) ?_
      refine jn_intro (fun J => J true) (cndT rfl h25) fun J23 h23 => ?_
      rcases hs with h | h | h | h <;> rw [h]
      · exact cndT rfl h23
      · exact cndF rfl (cndT rfl h23)
      · exact cndF rfl (cndF rfl (cndT rfl h23))
      · exact cndF rfl (cndF rfl (cndF rfl h23))
end
end Go.Proofs.Ytkkmoeimcedkgaa.Hw
