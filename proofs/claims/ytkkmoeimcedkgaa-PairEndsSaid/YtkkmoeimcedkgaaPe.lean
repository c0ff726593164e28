/- The pair that an act works on: its own blocks; what writes into them. -/
import Derived.Test.YtkkmoeimcedkgaaPd
set_option linter.unusedVariables false
set_option linter.unusedSimpArgs false
namespace Go.Proofs.Ytkkmoeimcedkgaa.Hw
open Go Go.Proofs

/-- What an act works on: block 'g' holds the two slices, 'bs' the sides; the rows are their own. -/
structure AA (H0 H : Hp) (g bs cS : Nat) (r0 r1 : RS) (An : Option Addr) (cn : Nat) (ns : List (Int × Int)) : Prop where
  ext : Ext H0 H
  gb : ∃ ty, H g = some (.cells [Value.slice (some ⟨bs, 0, none⟩) 2 cS, Value.slice An ns.length cn].toArray ty (0, 0))
  sb : ∃ ty rest, H bs = some (.cells ([Value.int .i64 r0.ph, .bool r0.up, .slice r0.A r0.n r0.c, .int .i64 r1.ph, .bool r1.up, .slice r1.A r1.n r1.c] ++ rest).toArray ty (0, 0))
  l0 : Row H0 H r0.A r0.n r0.c 1 (ints r0.log)
  l1 : Row H0 H r1.A r1.n r1.c 1 (ints r1.log)
  nt : Row H0 H An ns.length cn 2 (ns.flatMap noteC)
  own : H0 g = none ∧ H0 bs = none
  sep : g ≠ bs ∧ (¬ rowB r0.A g ∧ ¬ rowB r1.A g ∧ ¬ rowB An g) ∧ (¬ rowB r0.A bs ∧ ¬ rowB r1.A bs ∧ ¬ rowB An bs) ∧ (∀ b, rowB r0.A b → ¬ rowB r1.A b ∧ ¬ rowB An b) ∧ (∀ b, rowB r1.A b → ¬ rowB An b)
  small : r0.log.length < big ∧ r1.log.length < big ∧ ns.length < big

section
variable {H0 H H' : Hp} {g bs cS cn : Nat} {r0 r1 : RS} {An : Option Addr} {ns : List (Int × Int)}
theorem AA.n0 (h : AA H0 H g bs cS r0 r1 An cn ns) : r0.n = r0.log.length := by have := h.l0.1; simp [ints] at this; omega
theorem AA.n1 (h : AA H0 H g bs cS r0 r1 An cn ns) : r1.n = r1.log.length := by have := h.l1.1; simp [ints] at this; omega
theorem AA.live (h : AA H0 H g bs cS r0 r1 An cn ns) : H g ≠ none ∧ H bs ≠ none := by
  obtain ⟨_, hg⟩ := h.gb
  obtain ⟨_, _, hs⟩ := h.sb
  exact ⟨by rw [hg]; simp, by rw [hs]; simp⟩
/-- A new block changes nothing. -/
theorem AA.fresh (h : AA H0 H g bs cS r0 r1 An cn ns) {b : Nat} {o : Obj} (hb : H b = none) : AA H0 (upd b o H) g bs cS r0 r1 An cn ns := by
  have hne : ∀ x, H x ≠ none → (upd b o H) x = H x := fun x hx => upd_off (fun e => hx (e ▸ hb))
  obtain ⟨hg, hs⟩ := h.live
  exact ⟨h.ext.upd (h.ext.none hb), by rw [hne g hg]; exact h.gb, by rw [hne bs hs]; exact h.sb, h.l0.keep (fun x hx => hne x (h.l0.lt hx).1), h.l1.keep (fun x hx => hne x (h.l1.lt hx).1), h.nt.keep (fun x hx => hne x (h.nt.lt hx).1), h.own, h.sep, h.small⟩
/-- Side 0 is changed: its cells, and its row. -/
theorem AA.set0 (h : AA H0 H g bs cS r0 r1 An cn ns) {r : RS} (hx : Ext H0 H') (hg : H' g = H g)
    (hs : ∃ ty rest, H' bs = some (.cells ([Value.int .i64 r.ph, .bool r.up, .slice r.A r.n r.c, .int .i64 r1.ph, .bool r1.up, .slice r1.A r1.n r1.c] ++ rest).toArray ty (0, 0)))
    (hr : Row H0 H' r.A r.n r.c 1 (ints r.log)) (hnew : ∀ b, rowB r.A b → rowB r0.A b ∨ H b = none) (hk : ∀ b, rowB r1.A b ∨ rowB An b → H' b = H b) (hsm : r.log.length < big) : AA H0 H' g bs cS r r1 An cn ns := by
  obtain ⟨s1, ⟨s2, s3, s4⟩, ⟨s5, s6, s7⟩, s8, s9⟩ := h.sep
  refine ⟨hx, by rw [hg]; exact h.gb, hs, hr, h.l1.keep (fun b hb => hk b (.inl hb)), h.nt.keep (fun b hb => hk b (.inr hb)), h.own, ⟨s1, ⟨fun hb => ?_, s3, s4⟩, ⟨fun hb => ?_, s6, s7⟩, fun b hb => ?_, s9⟩, hsm, h.small.2⟩
  · rcases hnew g hb with h1 | h1
    · exact s2 h1
    · exact h.live.1 h1
  · rcases hnew bs hb with h1 | h1
    · exact s5 h1
    · exact h.live.2 h1
  · rcases hnew b hb with h1 | h1
    · exact s8 b h1
    · exact ⟨fun h2 => (h.l1.lt h2).1 h1, fun h2 => (h.nt.lt h2).1 h1⟩
theorem AA.set1 (h : AA H0 H g bs cS r0 r1 An cn ns) {r : RS} (hx : Ext H0 H') (hg : H' g = H g)
    (hs : ∃ ty rest, H' bs = some (.cells ([Value.int .i64 r0.ph, .bool r0.up, .slice r0.A r0.n r0.c, .int .i64 r.ph, .bool r.up, .slice r.A r.n r.c] ++ rest).toArray ty (0, 0)))
    (hr : Row H0 H' r.A r.n r.c 1 (ints r.log)) (hnew : ∀ b, rowB r.A b → rowB r1.A b ∨ H b = none) (hk : ∀ b, rowB r0.A b ∨ rowB An b → H' b = H b) (hsm : r.log.length < big) : AA H0 H' g bs cS r0 r An cn ns := by
  obtain ⟨s1, ⟨s2, s3, s4⟩, ⟨s5, s6, s7⟩, s8, s9⟩ := h.sep
  refine ⟨hx, by rw [hg]; exact h.gb, hs, h.l0.keep (fun b hb => hk b (.inl hb)), hr, h.nt.keep (fun b hb => hk b (.inr hb)), h.own, ⟨s1, ⟨s2, fun hb => ?_, s4⟩, ⟨s5, fun hb => ?_, s7⟩, fun b hb => ⟨fun h2 => ?_, (s8 b hb).2⟩, fun b hb h2 => ?_⟩, h.small.1, hsm, h.small.2.2⟩
  · rcases hnew g hb with h1 | h1
    · exact s3 h1
    · exact h.live.1 h1
  · rcases hnew bs hb with h1 | h1
    · exact s6 h1
    · exact h.live.2 h1
  · rcases hnew b h2 with h1 | h1
    · exact (s8 b hb).1 h1
    · exact (h.l0.lt hb).1 h1
  · rcases hnew b hb with h1 | h1
    · exact s9 b h1 h2
    · exact (h.nt.lt h2).1 h1
theorem AA.setN (h : AA H0 H g bs cS r0 r1 An cn ns) {A : Option Addr} {c : Nat} {ns' : List (Int × Int)} (hx : Ext H0 H') (hs : H' bs = H bs)
    (hg : ∃ ty, H' g = some (.cells [Value.slice (some ⟨bs, 0, none⟩) 2 cS, Value.slice A ns'.length c].toArray ty (0, 0)))
    (hr : Row H0 H' A ns'.length c 2 (ns'.flatMap noteC)) (hnew : ∀ b, rowB A b → rowB An b ∨ H b = none) (hk : ∀ b, rowB r0.A b ∨ rowB r1.A b → H' b = H b) (hsm : ns'.length < big) : AA H0 H' g bs cS r0 r1 A c ns' := by
  obtain ⟨s1, ⟨s2, s3, s4⟩, ⟨s5, s6, s7⟩, s8, s9⟩ := h.sep
  refine ⟨hx, hg, by rw [hs]; exact h.sb, h.l0.keep (fun b hb => hk b (.inl hb)), h.l1.keep (fun b hb => hk b (.inr hb)), hr, h.own, ⟨s1, ⟨s2, s3, fun hb => ?_⟩, ⟨s5, s6, fun hb => ?_⟩, fun b hb => ⟨(s8 b hb).1, fun h2 => ?_⟩, fun b hb h2 => ?_⟩, h.small.1, h.small.2.1, hsm⟩
  · rcases hnew g hb with h1 | h1
    · exact s4 h1
    · exact h.live.1 h1
  · rcases hnew bs hb with h1 | h1
    · exact s7 h1
    · exact h.live.2 h1
  · rcases hnew b h2 with h1 | h1
    · exact (s8 b hb).2 h1
    · exact (h.l0.lt hb).1 h1
  · rcases hnew b h2 with h1 | h1
    · exact s9 b hb h1
    · exact (h.l1.lt hb).1 h1
/-- As a pair that is read. -/
theorem AA.pair (h : AA H0 H g bs cS r0 r1 An cn ns) : PairAt H (some ⟨bs, 0, none⟩) 2 An ns.length [r0, r1] ns := by
  obtain ⟨ty, rest, hs⟩ := h.sb
  refine ⟨⟨rfl, .inr ⟨bs, 0, rfl, fun j v hj => ?_⟩, fun r hr => ?_⟩, ⟨rfl, h.nt.cells⟩, by unfold huge; simp, lt_huge h.small.2.2⟩
  · rw [cl_cells hs, Nat.zero_add, List.getElem?_append_left]
    · exact hj
    · have := (List.getElem?_eq_some_iff.1 hj).1
      exact this
  · rcases List.mem_cons.1 hr with rfl | hr
    · exact ⟨h.n0, h.l0.cells, lt_huge h.small.1⟩
    · rcases List.mem_cons.1 hr with rfl | hr
      · exact ⟨h.n1, h.l1.cells, lt_huge h.small.2.1⟩
      · cases hr
theorem AA.cl0 (h : AA H0 H g bs cS r0 r1 An cn ns) : cl H g 0 = some (.slice (some ⟨bs, 0, none⟩) 2 cS) := by
  obtain ⟨ty, hg⟩ := h.gb
  rw [cl_cells hg]; rfl
theorem AA.cl1 (h : AA H0 H g bs cS r0 r1 An cn ns) : cl H g 1 = some (.slice An ns.length cn) := by
  obtain ⟨ty, hg⟩ := h.gb
  rw [cl_cells hg]; rfl

variable {Q : Value → Hp → Prop}
def wr (r : RS) (p : Int) (A : Option Addr) (c : Nat) : RS := ⟨p, r.up, r.log ++ [p], A, r.n + 1, c⟩
theorem cell1 {g : Nat} {p : Int} {H : Hp} : cellsAt (upd g (.cells [Value.int .i64 p].toArray 50 (0, 0)) H) (some ⟨g, 0, none⟩) (ints [p]) := .inr ⟨g, 0, rfl, fun j v hj => by rw [cl_cells upd_at, Nat.zero_add]; exact hj⟩
/-- Side 0 writes a phase: the phase, the row, the slice. -/
theorem write0 (h : AA H0 H g bs cS r0 r1 An cn ns) {p : Int} (hb : r0.log.length + 1 < big) (hq : ∀ A c H', AA H0 H' g bs cS (wr r0 p A c) r1 An cn ns → Q (.tuple #[]) H') :
    storeF H bs 0 [.int .i64 p] fun H3 => cl H3 g 0 = some (.slice (some ⟨bs, 0, none⟩) 2 cS) ∧ cl H3 bs 2 = some (.slice r0.A r0.n r0.c) ∧ newF H3 50 [.int .i64 p] fun g5 H6 => appendF H6 50 1 8 r0.A r0.n r0.c (some ⟨g5, 0, none⟩) 1 fun A7 n7 c7 H8 => H8 g = H6 g ∧ storeF H8 bs 2 [.slice A7 n7 c7] fun H9 => Q (.tuple #[]) H9 := by
  obtain ⟨ty, rest, hs⟩ := h.sb
  obtain ⟨s1, ⟨s2, s3, s4⟩, ⟨s5, s6, s7⟩, s8, s9⟩ := h.sep
  refine ⟨_, _, hs, by simp, ?_⟩
  have a3 : AA H0 (upd bs (.cells (setR ([Value.int .i64 r0.ph, .bool r0.up, .slice r0.A r0.n r0.c, .int .i64 r1.ph, .bool r1.up, .slice r1.A r1.n r1.c] ++ rest) 0 [.int .i64 p]).toArray ty (0, 0)) H) g bs cS ⟨p, r0.up, r0.log, r0.A, r0.n, r0.c⟩ r1 An cn ns :=
    h.set0 (h.ext.upd h.own.2) (upd_off s1) ⟨ty, rest, by rw [upd_at]; rfl⟩ (h.l0.keep fun b hb => upd_off (fun e => s5 (e ▸ hb))) (fun b hb => .inl hb) (fun b hb => upd_off (fun e => by
      subst e
      rcases hb with hb | hb
      · exact s6 hb
      · exact s7 hb)) h.small.1
  refine ⟨by rw [cl_off s1]; exact h.cl0, by rw [cl_cells upd_at]; rfl, fun g5 hg5 => ?_⟩
  have a6 := a3.fresh (o := .cells [Value.int .i64 p].toArray 50 (0, 0)) hg5
  have hn := h.n0
  refine a6.l0.append a6.ext cell1 rfl ints_one ?_ ?_ ?_
  · simp only [hn]; unfold big at hb; omega
  · simp only [hn]; unfold big at hb; omega
  intro A' c' H8 hrow hx hch hnew _
  have keep : ∀ b, ¬ rowB r0.A b → (upd g5 (.cells [Value.int .i64 p].toArray 50 (0, 0)) (upd bs (.cells (setR ([Value.int .i64 r0.ph, .bool r0.up, .slice r0.A r0.n r0.c, .int .i64 r1.ph, .bool r1.up, .slice r1.A r1.n r1.c] ++ rest) 0 [.int .i64 p]).toArray ty (0, 0)) H)) b ≠ none → H8 b = _ := fun b h1 h2 => Classical.byContradiction fun h3 => by
    rcases (hch b h3).2 with h4 | h4
    · exact h1 h4
    · exact h2 h4
  have k1 := keep bs s5 a6.live.2
  have k2 := keep g s2 a6.live.1
  obtain ⟨ty', rest', hs6⟩ := a6.sb
  have hnb : ¬ rowB A' bs := fun hb => by
    rcases hnew bs hb with h1 | h1
    · exact s5 h1
    · exact a6.live.2 h1
  refine ⟨k2, _, _, k1.trans hs6, by simp, ?_⟩
  refine hq A' c' _ (a6.set0 (hx.upd h.own.2) ((upd_off s1).trans k2) ⟨ty', rest', by rw [upd_at]; rfl⟩ ?_ hnew (fun b hb => ?_) (by unfold wr; simp; exact hb))
  · have e : ints (wr r0 p A' c').log = ints r0.log ++ ints [p] := by unfold wr ints; simp
    rw [e]
    exact hrow.keep fun b hb => upd_off (fun e => hnb (e ▸ hb))
  · have hne : b ≠ bs := fun e => by
      subst e
      rcases hb with hb | hb
      · exact s6 hb
      · exact s7 hb
    rw [upd_off hne]
    refine keep b (fun h0 => ?_) ?_
    · rcases hb with hb | hb
      · exact (s8 b h0).1 hb
      · exact (s8 b h0).2 hb
    · rcases hb with hb | hb
      · exact (a6.l1.lt hb).1
      · exact (a6.nt.lt hb).1
theorem write1 (h : AA H0 H g bs cS r0 r1 An cn ns) {p : Int} (hb : r1.log.length + 1 < big) (hq : ∀ A c H', AA H0 H' g bs cS r0 (wr r1 p A c) An cn ns → Q (.tuple #[]) H') :
    storeF H bs 3 [.int .i64 p] fun H3 => cl H3 g 0 = some (.slice (some ⟨bs, 0, none⟩) 2 cS) ∧ cl H3 bs 5 = some (.slice r1.A r1.n r1.c) ∧ newF H3 50 [.int .i64 p] fun g5 H6 => appendF H6 50 1 8 r1.A r1.n r1.c (some ⟨g5, 0, none⟩) 1 fun A7 n7 c7 H8 => H8 g = H6 g ∧ storeF H8 bs 5 [.slice A7 n7 c7] fun H9 => Q (.tuple #[]) H9 := by
  obtain ⟨ty, rest, hs⟩ := h.sb
  obtain ⟨s1, ⟨s2, s3, s4⟩, ⟨s5, s6, s7⟩, s8, s9⟩ := h.sep
  refine ⟨_, _, hs, by simp, ?_⟩
  have a3 : AA H0 (upd bs (.cells (setR ([Value.int .i64 r0.ph, .bool r0.up, .slice r0.A r0.n r0.c, .int .i64 r1.ph, .bool r1.up, .slice r1.A r1.n r1.c] ++ rest) 3 [.int .i64 p]).toArray ty (0, 0)) H) g bs cS r0 ⟨p, r1.up, r1.log, r1.A, r1.n, r1.c⟩ An cn ns :=
    h.set1 (h.ext.upd h.own.2) (upd_off s1) ⟨ty, rest, by rw [upd_at]; rfl⟩ (h.l1.keep fun b hb => upd_off (fun e => s6 (e ▸ hb))) (fun b hb => .inl hb) (fun b hb => upd_off (fun e => by
      subst e
      rcases hb with hb | hb
      · exact s5 hb
      · exact s7 hb)) h.small.2.1
  refine ⟨by rw [cl_off s1]; exact h.cl0, by rw [cl_cells upd_at]; rfl, fun g5 hg5 => ?_⟩
  have a6 := a3.fresh (o := .cells [Value.int .i64 p].toArray 50 (0, 0)) hg5
  have hn := h.n1
  refine a6.l1.append a6.ext cell1 rfl ints_one ?_ ?_ ?_
  · simp only [hn]; unfold big at hb; omega
  · simp only [hn]; unfold big at hb; omega
  intro A' c' H8 hrow hx hch hnew _
  have keep : ∀ b, ¬ rowB r1.A b → (upd g5 (.cells [Value.int .i64 p].toArray 50 (0, 0)) (upd bs (.cells (setR ([Value.int .i64 r0.ph, .bool r0.up, .slice r0.A r0.n r0.c, .int .i64 r1.ph, .bool r1.up, .slice r1.A r1.n r1.c] ++ rest) 3 [.int .i64 p]).toArray ty (0, 0)) H)) b ≠ none → H8 b = _ := fun b h1 h2 => Classical.byContradiction fun h3 => by
    rcases (hch b h3).2 with h4 | h4
    · exact h1 h4
    · exact h2 h4
  have k1 := keep bs s6 a6.live.2
  have k2 := keep g s3 a6.live.1
  obtain ⟨ty', rest', hs6⟩ := a6.sb
  have hnb : ¬ rowB A' bs := fun hb => by
    rcases hnew bs hb with h1 | h1
    · exact s6 h1
    · exact a6.live.2 h1
  refine ⟨k2, _, _, k1.trans hs6, by simp, ?_⟩
  refine hq A' c' _ (a6.set1 (hx.upd h.own.2) ((upd_off s1).trans k2) ⟨ty', rest', by rw [upd_at]; rfl⟩ ?_ hnew (fun b hb => ?_) (by unfold wr; simp; exact hb))
  · have e : ints (wr r1 p A' c').log = ints r1.log ++ ints [p] := by unfold wr ints; simp
    rw [e]
    exact hrow.keep fun b hb => upd_off (fun e => hnb (e ▸ hb))
  · have hne : b ≠ bs := fun e => by
      subst e
      rcases hb with hb | hb
      · exact s5 hb
      · exact s7 hb
    rw [upd_off hne]
    refine keep b (fun h0 => ?_) ?_
    · rcases hb with hb | hb
      · exact (s8 b hb).1 h0
      · exact s9 b h0 hb
    · rcases hb with hb | hb
      · exact (a6.l0.lt hb).1
      · exact (a6.nt.lt hb).1
/-- A note is sent. -/
theorem send (h : AA H0 H g bs cS r0 r1 An cn ns) {to k : Int} (hb : ns.length + 1 < big) (hq : ∀ A c H', AA H0 H' g bs cS r0 r1 A c (ns ++ [(to, k)]) → Q (.tuple #[]) H') :
    newF H 66 [.int .i64 to, .int .i64 k] fun g2 H3 => appendF H3 66 2 16 An ns.length cn (some ⟨g2, 0, none⟩) 1 fun A4 n4 c4 H5 => storeF H5 g 1 [.slice A4 n4 c4] fun H6 => Q (.tuple #[]) H6 := by
  obtain ⟨s1, ⟨s2, s3, s4⟩, ⟨s5, s6, s7⟩, s8, s9⟩ := h.sep
  intro g2 hg2
  have a3 := h.fresh (o := .cells [Value.int .i64 to, .int .i64 k].toArray 66 (0, 0)) hg2
  refine a3.nt.append (new := [(to, k)].flatMap noteC) a3.ext (.inr ⟨g2, 0, rfl, fun j v hj => by rw [cl_cells upd_at, Nat.zero_add]; exact hj⟩) rfl (by intro v hv; simp [noteC] at hv; rcases hv with rfl | rfl <;> rfl) ?_ ?_ ?_
  · unfold big at hb; omega
  · unfold big at hb; omega
  intro A' c' H5 hrow hx hch hnew _
  have keep : ∀ b, ¬ rowB An b → (upd g2 (.cells [Value.int .i64 to, .int .i64 k].toArray 66 (0, 0)) H) b ≠ none → H5 b = _ := fun b h1 h2 => Classical.byContradiction fun h3 => by
    rcases (hch b h3).2 with h4 | h4
    · exact h1 h4
    · exact h2 h4
  have k1 := keep bs s7 a3.live.2
  have k2 := keep g s4 a3.live.1
  obtain ⟨ty', hg3⟩ := a3.gb
  have hnb : ¬ rowB A' g := fun hb => by
    rcases hnew g hb with h1 | h1
    · exact s4 h1
    · exact a3.live.1 h1
  refine ⟨_, _, k2.trans hg3, by simp, ?_⟩
  refine hq A' c' _ (a3.setN (hx.upd h.own.1) ((upd_off (Ne.symm s1)).trans k1) ⟨ty', by rw [upd_at]; simp [setR]⟩ ?_ hnew (fun b hb => ?_) (by simp; exact hb))
  · have e : (ns ++ [(to, k)]).flatMap noteC = ns.flatMap noteC ++ [(to, k)].flatMap noteC := by simp
    rw [e, show (ns ++ [(to, k)]).length = ns.length + 1 by simp]
    exact hrow.keep fun b hb => upd_off (fun e => hnb (e ▸ hb))
  · have hne : b ≠ g := fun e => by
      subst e
      rcases hb with hb | hb
      · exact s2 hb
      · exact s3 hb
    rw [upd_off hne]
    refine keep b (fun h0 => ?_) ?_
    · rcases hb with hb | hb
      · exact (s8 b hb).2 h0
      · exact s9 b hb h0
    · rcases hb with hb | hb
      · exact (a3.l0.lt hb).1
      · exact (a3.l1.lt hb).1
end
end Go.Proofs.Ytkkmoeimcedkgaa.Hw
