/- Locks, the other half: LockShared: plain law. -/
import Derived.Test.YtkbancdmhcnhjaaSd
set_option linter.unusedVariables false
set_option linter.unusedSimpArgs false
namespace Go.Proofs.Ytkbancdmhcnhjaa.Hw
open Go Go.Proofs
def mkS (thing : ByteArray) (t : Int) : Lk := ⟨thing, t, true⟩
theorem rising_ext : ∀ {a b : List Lk}, a.Pairwise ltL → b.Pairwise ltL → (∀ x, x ∈ a ↔ x ∈ b) → a = b
  | [], [], _, _, _ => rfl
  | [], y :: b, _, _, h => by have := (h y).2 List.mem_cons_self; cases this
  | x :: a, [], _, _, h => by have := (h x).1 List.mem_cons_self; cases this
  | x :: a, y :: b, ha, hb, h => by
    have hx := (List.pairwise_cons.1 ha).1
    have hy := (List.pairwise_cons.1 hb).1
    have e : x = y := by
      rcases List.mem_cons.1 ((h x).1 List.mem_cons_self) with h1 | h1
      · exact h1
      · rcases List.mem_cons.1 ((h y).2 List.mem_cons_self) with h2 | h2
        · exact h2.symm
        · exact absurd (ltL_trans (hy x h1) (hx y h2)) ltL_irrefl
    subst e
    congr 1
    refine rising_ext (List.Pairwise.of_cons ha) (List.Pairwise.of_cons hb) fun z => ⟨fun hz => ?_, fun hz => ?_⟩
    · rcases List.mem_cons.1 ((h z).1 (List.mem_cons_of_mem _ hz)) with e | hz'
      · subst e; exact absurd (hx z hz) ltL_irrefl
      · exact hz'
    · rcases List.mem_cons.1 ((h z).2 (List.mem_cons_of_mem _ hz)) with e | hz'
      · subst e; exact absurd (hy z hz) ltL_irrefl
      · exact hz'
theorem rising_mk {thing : ByteArray} {S : List Int} (h : Strict S) : Rising (S.map (mkS thing)) := by
  rw [rising_pair, List.pairwise_map]
  exact List.Pairwise.imp (fun {a b} (hlt : a < b) => (ordL_lt (a := mkS thing a) (t := thing) (n := b)).2 (.inr ⟨rfl, hlt⟩)) h
theorem take_mk {thing : ByteArray} {S : List Int} {t : Int} (h : Strict S) (hn : t ∉ S) : takeM (S.map (mkS thing)) (mkS thing t) = (addM S t).map (mkS thing) := by
  refine rising_ext (rising_pair.1 (take_rising (rising_mk h))) (rising_pair.1 (rising_mk (strict_add h))) fun a => ⟨fun ha => ?_, fun ha => ?_⟩
  · rcases take_mem ha with ha | ⟨_, rfl | ⟨y, hy, hk, _⟩⟩
    · obtain ⟨x, hx, rfl⟩ := List.mem_map.1 ha
      exact List.mem_map.2 ⟨x, (mem_add h).2 (.inr hx), rfl⟩
    · exact List.mem_map.2 ⟨t, (mem_add h).2 (.inl rfl), rfl⟩
    · obtain ⟨x, hx, rfl⟩ := List.mem_map.1 hy
      have e : x = t := hk.2
      exact absurd (e ▸ hx) hn
  · obtain ⟨x, hx, rfl⟩ := List.mem_map.1 ha
    rcases (mem_add h).1 hx with rfl | hx
    · unfold takeM
      split
      · rename_i hat
        obtain ⟨y, hy, hz⟩ := isAt_get hat
        have hk := ordL_eq.1 (show ordL y (mkS thing x).thing (mkS thing x).txn = 0 from hz)
        obtain ⟨z, hz', rfl⟩ := List.mem_map.1 (List.mem_of_getElem? hy)
        have e : z = x := hk.2
        exact absurd (e ▸ hz') hn
      · unfold insL
        exact List.mem_append_right _ List.mem_cons_self
    · exact take_old (List.mem_map.2 ⟨x, hx, rfl⟩) (fun e => hn (by have e : x = t := e; exact e ▸ hx))
theorem ask_shared {thing : ByteArray} {S : List Int} {t : Int} (hS : Strict S) (hok : ∀ x ∈ S, numB x = true ∧ thingB thing = true) (hlen : S.length < 5000) :
    askM ⟨S.map (mkS thing), [], []⟩ t thing true = if numB t && thingB thing then (⟨(addM S t).map (mkS thing), [], []⟩, true, 0) else (nilK, false, 2) := by
  have hv : validM ⟨S.map (mkS thing), [], []⟩ = true := by
    refine valid_iff.2 ⟨⟨by simp, by simp; omega, by simp⟩, held_iff.2 ⟨fun x hx => ?_, rising_mk hS, fun a ha b hb _ _ => ?_⟩, rfl, rfl⟩
    · obtain ⟨z, hz, rfl⟩ := List.mem_map.1 hx
      unfold elOk
      rw [show (mkS thing z).thing = thing from rfl, show (mkS thing z).txn = z from rfl, (hok z hz).1, (hok z hz).2]; rfl
    · obtain ⟨z, hz, rfl⟩ := List.mem_map.1 ha
      obtain ⟨z', hz', rfl⟩ := List.mem_map.1 hb
      exact ⟨rfl, rfl⟩
  unfold askM
  rw [hv, Bool.true_and]
  cases hg : (numB t && thingB thing) with
  | false => rfl
  | true =>
    simp only [if_true, List.any_nil, Bool.or_self, Bool.false_eq_true, if_false, Bool.true_or, Bool.and_true]
    by_cases hm : t ∈ S
    · have h1 : (heldM (S.map (mkS thing)) t thing).isSome = true := held_some.2 ⟨mkS thing t, List.mem_map.2 ⟨t, hm, rfl⟩, rfl, rfl⟩
      rw [if_pos h1]
      have : addM S t = S := by unfold addM; rw [if_pos hm]
      rw [this]
    · have h1 : (heldM (S.map (mkS thing)) t thing).isSome = false := by
        cases hs : (heldM (S.map (mkS thing)) t thing).isSome with
        | false => rfl
        | true =>
          obtain ⟨z, hz, e, _⟩ := held_some.1 hs
          obtain ⟨y, hy, rfl⟩ := List.mem_map.1 hz
          have e : y = t := e
          exact absurd (e ▸ hy) hm
      have hf : freeM (S.map (mkS thing)) [] t thing true = true := by
        unfold freeM
        rw [h1]
        have : ((S.map (mkS thing)).any fun h => clashM h t thing true) = false := by
          rw [List.any_eq_false]
          intro z hz
          obtain ⟨y, hy, rfl⟩ := List.mem_map.1 hz
          unfold clashM mkS
          simp
        rw [this]; rfl
      rw [h1, hf]
      simp only [Bool.false_eq_true, if_false, if_true, Bool.not_false, Bool.true_and, List.length_map, List.length_nil, Nat.add_zero]
      rw [decide_eq_true hlen]
      simp only [Bool.not_true, Bool.false_eq_true, if_false]
      have := take_mk (thing := thing) hS hm
      unfold mkS at this ⊢
      rw [this]
end Go.Proofs.Ytkbancdmhcnhjaa.Hw
