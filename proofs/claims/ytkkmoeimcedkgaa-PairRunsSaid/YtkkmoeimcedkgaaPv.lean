/- The law PairRuns: its function returns true, for all acts that come in. -/
import Derived.Test.YtkkmoeimcedkgaaPr
set_option linter.unusedVariables false
set_option linter.unusedSimpArgs false
namespace Go.Proofs.Ytkkmoeimcedkgaa.Hw
open Go Go.Proofs
section
variable {H0 H H' : Hp} {Q : Value → Hp → Prop}
theorem c4 {A : Option Addr} {n c : Nat} {l : List Act3} (hA : ActsAt H A n l) (hq : ∀ H', Ext H H' → Q (.bool true) H') : HCalls Try.prog 4 [.slice A n c] H Q := by
  refine f4.ok _ _ _ ?_
  unfold f4 jn
  dsimp only
  have hn := hA.len
  refine cndI (fun h => c9 fun H' hx => ⟨_, rfl, hq _ hx⟩) (fun h => ?_)
  have hl : l.length ≤ 300 := by simp at h; omega
  refine c22 hA (by omega) fun A6 n6 c6 A7 n7 c7 B8 c8 H5 l5 ns5 x5 hp5 e5 hB5 => ⟨_, _, _, _, _, _, _, _, _, rfl, c23 (hA.ext x5) (by omega) fun A11 n11 c11 A12 n12 c12 B13 c13' H10 l10 ns10 x10 hp10 e10 hB10 => ⟨_, _, _, _, _, _, _, _, _, rfl, c13 (hp5.ext x10) hp10 ⟨_, rfl, ?_⟩⟩⟩
  rw [e5, e10, decide_eq_true rfl]
  have hB5' := cellsAt_ext x10 hB5
  refine cndF rfl (cndF (by simp) ?_)
  refine scan (n := l.length) (by omega) (fun i H' => H' = H10) rfl ?_ ?_
  · rintro i H' next hi rfl hnext
    obtain ⟨a, ha⟩ : ∃ a, (runC newP l)[i]? = some a := ⟨_, List.getElem?_eq_getElem (by rw [runC_length]; exact hi)⟩
    refine cndT (decide_eq_true (by simp; omega)) ⟨by simp, by simp; omega, rd_ints hB5' ha fun b o _ k1 => ⟨a, by simpa using k1, by simp, by simp; omega, rd_ints hB10 ha fun b o _ k1 => ⟨a, by simpa using k1, cndF (by simp) ⟨?_, hnext _ rfl⟩⟩⟩⟩
    exact rfl
  · rintro H' next rfl
    exact cndF (by simp) (c9 fun H' hx => ⟨_, rfl, hq _ ((x5.trans x10).trans hx)⟩)
end
end Go.Proofs.Ytkkmoeimcedkgaa.Hw
