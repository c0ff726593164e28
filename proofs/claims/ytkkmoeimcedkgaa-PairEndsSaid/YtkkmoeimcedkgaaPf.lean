/- The pair: what the small methods of the two programs do. -/
import Derived.Test.YtkkmoeimcedkgaaPe
set_option linter.unusedVariables false
set_option linter.unusedSimpArgs false
namespace Go.Proofs.Ytkkmoeimcedkgaa.Hw
open Go Go.Proofs
section
variable {H0 H H' : Hp} {g bs cS cn : Nat} {r0 r1 : RS} {An : Option Addr} {ns : List (Int × Int)} {Q : Value → Hp → Prop}
theorem c62_0 (h : AA H0 H g bs cS r0 r1 An cn ns) {p : Int} (hb : r0.log.length + 1 < big) (hq : ∀ A c H', AA H0 H' g bs cS (wr r0 p A c) r1 An cn ns → Q (.tuple #[]) H') : HCalls Try.prog 62 [.pointer (some ⟨g, 0, none⟩), .int .i64 0, .int .i64 p] H Q :=
  f62.ok g 0 0 p (by
    unfold f62
    exact ⟨_, _, _, h.cl0, by simp, by simp, onPtrI (storeF_mono (fun H3 h1 => ⟨_, _, _, h1.2.1, newF_mono (fun g5 H6 h3 => appendF_mono (fun A n c H8 h4 => h4.2) h3) h1.2.2⟩) (write0 h hb hq))⟩)
theorem c62_1 (h : AA H0 H g bs cS r0 r1 An cn ns) {p : Int} (hb : r1.log.length + 1 < big) (hq : ∀ A c H', AA H0 H' g bs cS r0 (wr r1 p A c) An cn ns → Q (.tuple #[]) H') : HCalls Try.prog 62 [.pointer (some ⟨g, 0, none⟩), .int .i64 1, .int .i64 p] H Q :=
  f62.ok g 0 1 p (by
    unfold f62
    exact ⟨_, _, _, h.cl0, by simp, by simp, onPtrI (storeF_mono (fun H3 h1 => ⟨_, _, _, h1.2.1, newF_mono (fun g5 H6 h3 => appendF_mono (fun A n c H8 h4 => h4.2) h3) h1.2.2⟩) (write1 h hb hq))⟩)
theorem c55_0 (h : AA H0 H g bs cS r0 r1 An cn ns) {p : Int} (hb : r0.log.length + 1 < big) (hq : ∀ A c H', AA H0 H' g bs cS (wr r0 p A c) r1 An cn ns → Q (.tuple #[]) H') : HCalls Try.prog 55 [.pointer (some ⟨g, 0, none⟩), .int .i64 0, .int .i64 p] H Q :=
  f55.ok g 0 0 p (by
    unfold f55
    exact ⟨_, _, _, h.cl0, by simp, by simp, onPtrI (storeF_mono (fun H3 h1 => ⟨_, _, _, h1.1, _, _, _, h1.1, by simp, by simp, onPtrI ⟨_, _, _, h1.2.1, newF_mono (fun g5 H6 h3 => appendF_mono (fun A n c H8 h4 => ⟨h4.1, by simp, by simp, onPtrI h4.2⟩) h3) h1.2.2⟩⟩) (write0 h hb hq))⟩)
theorem c55_1 (h : AA H0 H g bs cS r0 r1 An cn ns) {p : Int} (hb : r1.log.length + 1 < big) (hq : ∀ A c H', AA H0 H' g bs cS r0 (wr r1 p A c) An cn ns → Q (.tuple #[]) H') : HCalls Try.prog 55 [.pointer (some ⟨g, 0, none⟩), .int .i64 1, .int .i64 p] H Q :=
  f55.ok g 0 1 p (by
    unfold f55
    exact ⟨_, _, _, h.cl0, by simp, by simp, onPtrI (storeF_mono (fun H3 h1 => ⟨_, _, _, h1.1, _, _, _, h1.1, by simp, by simp, onPtrI ⟨_, _, _, h1.2.1, newF_mono (fun g5 H6 h3 => appendF_mono (fun A n c H8 h4 => ⟨h4.1, by simp, by simp, onPtrI h4.2⟩) h3) h1.2.2⟩⟩) (write1 h hb hq))⟩)
theorem c63 (h : AA H0 H g bs cS r0 r1 An cn ns) {to k : Int} (hb : ns.length + 1 < big) (hq : ∀ A c H', AA H0 H' g bs cS r0 r1 A c (ns ++ [(to, k)]) → Q (.tuple #[]) H') : HCalls Try.prog 63 [.pointer (some ⟨g, 0, none⟩), .int .i64 to, .int .i64 k] H Q :=
  f63.ok g 0 to k (by
    unfold f63
    exact ⟨_, _, _, h.cl1, send h hb hq⟩)
theorem c51 (h : AA H0 H g bs cS r0 r1 An cn ns) {to k : Int} (hb : ns.length + 1 < big) (hq : ∀ A c H', AA H0 H' g bs cS r0 r1 A c (ns ++ [(to, k)]) → Q (.tuple #[]) H') : HCalls Try.prog 51 [.pointer (some ⟨g, 0, none⟩), .int .i64 to, .int .i64 k] H Q :=
  f51.ok g 0 to k (by
    unfold f51
    exact ⟨_, _, _, h.cl1, send h hb hq⟩)
/-- One of some phases? -/
theorem c66_0 (h : AA H0 H g bs cS r0 r1 An cn ns) {A : Option Addr} {n c : Nat} {l : List Int} (hA : cellsAt H A (ints l)) (hl : n = l.length) (hb : l.length < big) (hq : Q (.bool (l.any (r0.ph == ·))) H) : HCalls Try.prog 66 [.pointer (some ⟨g, 0, none⟩), .int .i64 0, .slice A n c] H Q :=
  f66.ok g 0 0 A n c (by
    unfold f66
    obtain ⟨ty, rest, hs⟩ := h.sb
    exact ⟨_, _, _, h.cl0, by simp, by simp, onPtrI ⟨r0.ph, by rw [cl_cells hs]; rfl, c58 hA hl (lt_huge hb) ⟨_, rfl, hq⟩⟩⟩)
theorem c66_1 (h : AA H0 H g bs cS r0 r1 An cn ns) {A : Option Addr} {n c : Nat} {l : List Int} (hA : cellsAt H A (ints l)) (hl : n = l.length) (hb : l.length < big) (hq : Q (.bool (l.any (r1.ph == ·))) H) : HCalls Try.prog 66 [.pointer (some ⟨g, 0, none⟩), .int .i64 1, .slice A n c] H Q :=
  f66.ok g 0 1 A n c (by
    unfold f66
    obtain ⟨ty, rest, hs⟩ := h.sb
    exact ⟨_, _, _, h.cl0, by simp, by simp, onPtrI ⟨r1.ph, by rw [cl_cells hs]; rfl, c58 hA hl (lt_huge hb) ⟨_, rfl, hq⟩⟩⟩)
theorem c50_0 (h : AA H0 H g bs cS r0 r1 An cn ns) {A : Option Addr} {n c : Nat} {l : List Int} (hA : cellsAt H A (ints l)) (hl : n = l.length) (hb : l.length < big) (hq : Q (.bool (l.any (r0.ph == ·))) H) : HCalls Try.prog 50 [.pointer (some ⟨g, 0, none⟩), .int .i64 0, .slice A n c] H Q :=
  f50.ok g 0 0 A n c (by
    unfold f50
    subst hl
    have hbig : l.length < 4611686018427387904 := by unfold big at hb; omega
    obtain ⟨ty, rest, hs⟩ := h.sb
    refine scan hbig (fun i H' => H' = H ∧ (l.take i).any (r0.ph == ·) = false) ⟨rfl, by simp⟩ ?_ ?_
    · rintro i _ next hi ⟨rfl, hI⟩ hnext
      obtain ⟨x, hx⟩ : ∃ x, l[i]? = some x := ⟨_, List.getElem?_eq_getElem hi⟩
      refine cndT (by simpa using hi) ⟨by simp, by simpa using hi, rd_ints hA hx fun b o _ hc => ⟨x, by simpa using hc, _, _, _, h.cl0, by simp, by simp, onPtrI ⟨r0.ph, by rw [cl_cells hs]; rfl, cndI (fun h => ?_) (fun h => ⟨rfl, ?_⟩)⟩⟩⟩
      · rw [any_hit hx h] at hq; exact hq
      · exact hnext _ ⟨rfl, by rw [any_take_succ hx, hI, h]; rfl⟩
    · rintro _ next ⟨rfl, hI⟩
      rw [any_done hI] at hq
      exact cndF (by simp) hq)
theorem c50_1 (h : AA H0 H g bs cS r0 r1 An cn ns) {A : Option Addr} {n c : Nat} {l : List Int} (hA : cellsAt H A (ints l)) (hl : n = l.length) (hb : l.length < big) (hq : Q (.bool (l.any (r1.ph == ·))) H) : HCalls Try.prog 50 [.pointer (some ⟨g, 0, none⟩), .int .i64 1, .slice A n c] H Q :=
  f50.ok g 0 1 A n c (by
    unfold f50
    subst hl
    have hbig : l.length < 4611686018427387904 := by unfold big at hb; omega
    obtain ⟨ty, rest, hs⟩ := h.sb
    refine scan hbig (fun i H' => H' = H ∧ (l.take i).any (r1.ph == ·) = false) ⟨rfl, by simp⟩ ?_ ?_
    · rintro i _ next hi ⟨rfl, hI⟩ hnext
      obtain ⟨x, hx⟩ : ∃ x, l[i]? = some x := ⟨_, List.getElem?_eq_getElem hi⟩
      refine cndT (by simpa using hi) ⟨by simp, by simpa using hi, rd_ints hA hx fun b o _ hc => ⟨x, by simpa using hc, _, _, _, h.cl0, by simp, by simp, onPtrI ⟨r1.ph, by rw [cl_cells hs]; rfl, cndI (fun h => ?_) (fun h => ⟨rfl, ?_⟩)⟩⟩⟩
      · rw [any_hit hx h] at hq; exact hq
      · exact hnext _ ⟨rfl, by rw [any_take_succ hx, hI, h]; rfl⟩
    · rintro _ next ⟨rfl, hI⟩
      rw [any_done hI] at hq
      exact cndF (by simp) hq)
end
end Go.Proofs.Ytkkmoeimcedkgaa.Hw
