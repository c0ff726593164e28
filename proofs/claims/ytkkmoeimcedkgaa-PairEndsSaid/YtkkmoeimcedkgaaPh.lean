/- The pair: single cells of a side; a note is taken away. -/
import Derived.Test.YtkkmoeimcedkgaaPg
set_option linter.unusedVariables false
set_option linter.unusedSimpArgs false
namespace Go.Proofs.Ytkkmoeimcedkgaa.Hw
open Go Go.Proofs
namespace ST
def ph0 (s : ST) (p : Int) : ST := ⟨⟨p, s.s0.up, s.s0.log⟩, s.s1, s.ns⟩
def up0 (s : ST) (b : Bool) : ST := ⟨⟨s.s0.ph, b, s.s0.log⟩, s.s1, s.ns⟩
def ph1 (s : ST) (p : Int) : ST := ⟨s.s0, ⟨p, s.s1.up, s.s1.log⟩, s.ns⟩
def up1 (s : ST) (b : Bool) : ST := ⟨s.s0, ⟨s.s1.ph, b, s.s1.log⟩, s.ns⟩
def take (s : ST) (i : Nat) : ST := ⟨s.s0, s.s1, s.ns.eraseIdx i⟩
end ST
section
variable {H0 H H' : Hp} {g bs cS : Nat} {s : ST} {Q : Value → Hp → Prop} {K : Hp → Prop}
theorem AS.cl0 (h : AS H0 H g bs cS s) : cl H g 0 = some (.slice (some ⟨bs, 0, none⟩) 2 cS) := by
  obtain ⟨r0, r1, An, cn, h0, h1, h⟩ := h
  exact h.cl0
theorem AS.rd (h : AS H0 H g bs cS s) : ∃ A0 n0 c0 A1 n1 c1 An cn, cl H bs 0 = some (.int .i64 s.s0.ph) ∧ cl H bs 1 = some (.bool s.s0.up) ∧ cl H bs 2 = some (.slice A0 n0 c0) ∧ cl H bs 3 = some (.int .i64 s.s1.ph) ∧ cl H bs 4 = some (.bool s.s1.up) ∧ cl H bs 5 = some (.slice A1 n1 c1) ∧ cl H g 1 = some (.slice An s.ns.length cn) ∧
    n0 = s.s0.log.length ∧ n1 = s.s1.log.length ∧ cellsAt H A0 (ints s.s0.log) ∧ cellsAt H A1 (ints s.s1.log) ∧ NotesAt H An s.ns.length s.ns := by
  obtain ⟨r0, r1, An, cn, h0, h1, h⟩ := h
  obtain ⟨ty, rest, hs⟩ := h.sb
  have e0 := h.n0
  have e1 := h.n1
  have k0 := h.l0.cells
  have k1 := h.l1.cells
  rw [← h0, ← h1]
  exact ⟨r0.A, r0.n, r0.c, r1.A, r1.n, r1.c, An, cn, by rw [cl_cells hs]; rfl, by rw [cl_cells hs]; rfl, by rw [cl_cells hs]; rfl, by rw [cl_cells hs]; rfl, by rw [cl_cells hs]; rfl, by rw [cl_cells hs]; rfl, h.cl1, e0, e1, k0, k1, ⟨rfl, h.nt.cells⟩⟩
theorem st0 (h : AS H0 H g bs cS s) {k : Nat} {v : Value} {s' : Side} (hl : s'.log = s.s0.log)
    (hv : ∀ (A : Option Addr) (n c : Nat) (r : List Value), setR ([Value.int .i64 s.s0.ph, .bool s.s0.up, .slice A n c] ++ r) k [v] = [Value.int .i64 s'.ph, .bool s'.up, .slice A n c] ++ r) (hk : k < 3)
    (hq : ∀ H', AS H0 H' g bs cS ⟨s', s.s1, s.ns⟩ → K H') : storeF H bs k [v] K := by
  obtain ⟨r0, r1, An, cn, h0, h1, h⟩ := h
  obtain ⟨ty, rest, hs⟩ := h.sb
  obtain ⟨s1, ⟨s2, s3, s4⟩, ⟨s5, s6, s7⟩, s8, s9⟩ := h.sep
  refine ⟨_, ty, hs, by simp; omega, hq _ ⟨⟨s'.ph, s'.up, r0.log, r0.A, r0.n, r0.c⟩, r1, An, cn, ?_, h1, h.set0 (h.ext.upd h.own.2) (upd_off s1) ⟨ty, rest, ?_⟩ (h.l0.keep fun b hb => upd_off (fun e => s5 (e ▸ hb))) (fun b hb => .inl hb) (fun b hb => upd_off (fun e => ?_)) h.small.1⟩⟩
  · cases s'
    simp only [RS.side] at h0 ⊢
    rw [← h0] at hl
    simp only at hl
    rw [hl]
  · rw [upd_at]
    have e := hv r0.A r0.n r0.c ([Value.int .i64 r1.ph, .bool r1.up, .slice r1.A r1.n r1.c] ++ rest)
    rw [← h0] at e
    simp only [RS.side, List.cons_append, List.nil_append] at e ⊢
    rw [e]
  · subst e
    rcases hb with hb | hb
    · exact s6 hb
    · exact s7 hb
theorem st1 (h : AS H0 H g bs cS s) {k : Nat} {v : Value} {s' : Side} (hl : s'.log = s.s1.log)
    (hv : ∀ (x y z : Value) (A : Option Addr) (n c : Nat) (r : List Value), setR ([x, y, z, Value.int .i64 s.s1.ph, .bool s.s1.up, .slice A n c] ++ r) k [v] = [x, y, z, Value.int .i64 s'.ph, .bool s'.up, .slice A n c] ++ r) (hk : k < 6)
    (hq : ∀ H', AS H0 H' g bs cS ⟨s.s0, s', s.ns⟩ → K H') : storeF H bs k [v] K := by
  obtain ⟨r0, r1, An, cn, h0, h1, h⟩ := h
  obtain ⟨ty, rest, hs⟩ := h.sb
  obtain ⟨s1, ⟨s2, s3, s4⟩, ⟨s5, s6, s7⟩, s8, s9⟩ := h.sep
  refine ⟨_, ty, hs, by simp; omega, hq _ ⟨r0, ⟨s'.ph, s'.up, r1.log, r1.A, r1.n, r1.c⟩, An, cn, h0, ?_, h.set1 (h.ext.upd h.own.2) (upd_off s1) ⟨ty, rest, ?_⟩ (h.l1.keep fun b hb => upd_off (fun e => s6 (e ▸ hb))) (fun b hb => .inl hb) (fun b hb => upd_off (fun e => ?_)) h.small.2.1⟩⟩
  · cases s'
    simp only [RS.side] at h1 ⊢
    rw [← h1] at hl
    simp only at hl
    rw [hl]
  · rw [upd_at]
    have e := hv (.int .i64 r0.ph) (.bool r0.up) (.slice r0.A r0.n r0.c) r1.A r1.n r1.c rest
    rw [← h1] at e
    simp only [RS.side, List.cons_append, List.nil_append] at e ⊢
    rw [e]
  · subst e
    rcases hb with hb | hb
    · exact s5 hb
    · exact s7 hb
theorem stPh0 (h : AS H0 H g bs cS s) {p : Int} (hq : ∀ H', AS H0 H' g bs cS (s.ph0 p) → K H') : storeF H bs 0 [.int .i64 p] K := st0 h (s' := ⟨p, s.s0.up, s.s0.log⟩) rfl (fun A n c r => rfl) (by omega) hq
theorem stUp0 (h : AS H0 H g bs cS s) {p : Bool} (hq : ∀ H', AS H0 H' g bs cS (s.up0 p) → K H') : storeF H bs 1 [.bool p] K := st0 h (s' := ⟨s.s0.ph, p, s.s0.log⟩) rfl (fun A n c r => rfl) (by omega) hq
theorem stPh1 (h : AS H0 H g bs cS s) {p : Int} (hq : ∀ H', AS H0 H' g bs cS (s.ph1 p) → K H') : storeF H bs 3 [.int .i64 p] K := st1 h (s' := ⟨p, s.s1.up, s.s1.log⟩) rfl (fun x y z A n c r => rfl) (by omega) hq
theorem stUp1 (h : AS H0 H g bs cS s) {p : Bool} (hq : ∀ H', AS H0 H' g bs cS (s.up1 p) → K H') : storeF H bs 4 [.bool p] K := st1 h (s' := ⟨s.s1.ph, p, s.s1.log⟩) rfl (fun x y z A n c r => rfl) (by omega) hq

theorem notes_len {ns : List (Int × Int)} : (ns.flatMap noteC).length = ns.length * 2 := flat_length fun x _ => rfl
theorem notes_erase : ∀ {ns : List (Int × Int)} {i : Nat}, i < ns.length → ((ns.eraseIdx i).flatMap noteC) = (ns.flatMap noteC).take (i * 2) ++ (ns.flatMap noteC).drop ((i + 1) * 2)
  | [], i, h => by simp at h
  | x :: r, 0, _ => by simp [noteC]
  | x :: r, i + 1, h => by
    have ih := notes_erase (ns := r) (i := i) (by simpa using h)
    simp only [List.eraseIdx_cons_succ, List.flatMap_cons, ih]
    have e : noteC x = [.int .i64 x.1, .int .i64 x.2] := rfl
    rw [e, show (i + 1) * 2 = i * 2 + 1 + 1 by omega, show (i + 1 + 1) * 2 = i * 2 + 2 + 1 + 1 by omega, show i * 2 + 1 + 1 = i * 2 + 2 by omega]
    simp
theorem Row.cut {H0 H : Hp} {A : Option Addr} {n c esz : Nat} {vals : List Value} (R : Row H0 H A n c esz vals) {i c' : Nat} (hi : i ≤ n) (hc : i ≤ c') (hc2 : c' ≤ c) (h0 : 0 < c) : Row H0 H A i c' esz (vals.take (i * esz)) := by
  obtain ⟨h1, h2, h3 | ⟨b, cs, ty, rfl, hb, hl, ht, hz⟩⟩ := R
  · omega
  · have h4 : i * esz ≤ n * esz := Nat.mul_le_mul_right _ hi
    refine ⟨by rw [List.length_take, h1]; omega, hc, .inr ⟨b, cs, ty, rfl, hb, Nat.le_trans (Nat.mul_le_mul_right _ hc2) hl, ?_, hz⟩⟩
    rw [← ht, List.take_take, Nat.min_eq_left h4]
theorem cut0 {A : Option Addr} {b : Bool} : cutA A (0 * 2) b = A := by
  cases b
  · cases A with
    | none => rfl
    | some a => simp [cutA, Addr.add]
  · rfl
theorem cut_some {b k : Nat} : cutA (some ⟨b, 0, none⟩) k false = some ⟨b, 0 + k, none⟩ := by
  unfold cutA Addr.add
  by_cases h : k = 0
  · subst h; rfl
  · simp [h]
theorem Row.tail {H0 H : Hp} {A : Option Addr} {n c : Nat} {vals : List Value} (R : Row H0 H A n c 2 vals) {j : Nat} (hj : j ≤ n) : cellsAt H (cutA A (j * 2) (decide (c = j))) (vals.drop (j * 2)) := by
  obtain ⟨h1, h2, h3 | ⟨b, cs, ty, rfl, hb, hl, ht, hz⟩⟩ := R
  · left
    have : n = 0 := by omega
    subst this
    exact List.drop_eq_nil_iff.2 (by omega)
  · by_cases hcj : c = j
    · left
      exact List.drop_eq_nil_iff.2 (by omega)
    · rw [decide_eq_false hcj]
      refine .inr ⟨b, 0 + j * 2, cut_some, fun k v hk => ?_⟩
      rw [List.getElem?_drop] at hk
      rw [cl_cells hb, Nat.zero_add]
      rw [← ht, List.getElem?_take] at hk
      split at hk
      · exact hk
      · cases hk
theorem notes_one {ns : List (Int × Int)} {k : Nat} : ∀ v ∈ (ns.flatMap noteC).drop k, v.oneCell' = true := by
  intro v hv
  have := List.mem_of_mem_drop hv
  obtain ⟨x, _, hx⟩ := List.mem_flatMap.1 this
  simp only [noteC, List.mem_cons, List.not_mem_nil, or_false] at hx
  rcases hx with rfl | rfl <;> rfl
theorem c48 {A : Option Addr} {c : Nat} {ns : List (Int × Int)} {i : Nat} {pi pj : Int} (R : Row H0 H A ns.length c 2 (ns.flatMap noteC)) (hx : Ext H0 H) (hi : i < ns.length) (hpi : pi = i) (hpj : pj = (i + 1 : Nat)) (hb : ns.length < big)
    (hq : ∀ H', Row H0 H' A (ns.eraseIdx i).length c 2 ((ns.eraseIdx i).flatMap noteC) → Ext H0 H' → (∀ b, H' b ≠ H b → rowB A b) → Q (.slice A (ns.eraseIdx i).length c) H') : HCalls Try.prog 48 [.slice A ns.length c, .int .i64 pi, .int .i64 pj] H Q := by
  refine f48.ok _ _ _ _ _ ?_
  unfold f48 jn
  subst hpi hpj
  have hc : ns.length ≤ c := R.2.1
  have hlen : (ns.eraseIdx i).length = ns.length - 1 := by rw [List.length_eraseIdx]; simp [hi]
  unfold big at hb
  refine ⟨by omega, by omega, by omega, by omega, by omega, by omega, cndF (by rw [beq_eq_false_iff_ne]; omega) ⟨by omega, by omega, by omega, by omega, ?_⟩⟩
  simp only [Int.toNat_natCast, Nat.sub_zero, cut0]
  have Rc := R.cut (i := i) (c' := c) (by omega) (by omega) (Nat.le_refl _) (by omega)
  refine Rc.append hx (R.tail (j := i + 1) (by omega)) (by rw [List.length_drop, notes_len]; omega) notes_one (by omega) (by omega) ?_
  intro A' c' H2 hrow hx2 hch hnew hin
  obtain ⟨rfl, rfl⟩ := hin (by omega)
  rw [← notes_erase hi] at hrow
  have en : i + (ns.length - (i + 1)) = (ns.eraseIdx i).length := by omega
  rw [en] at hrow ⊢
  refine ⟨by omega, by omega, by omega, by omega, fun h => by omega, fun _ => ?_⟩
  obtain ⟨g1, g2, g3 | ⟨b, cs, ty, rfl, hbb, hl, ht, hz⟩⟩ := hrow
  · omega
  · have e : cutA (some ⟨b, 0, none⟩) ((ns.eraseIdx i).length * 2) (decide (c' = (ns.eraseIdx i).length)) = some ⟨b, 0 + (ns.eraseIdx i).length * 2, none⟩ := by
      rw [decide_eq_false (by omega)]; exact cut_some
    rw [e]
    have hr : (List.replicate (ns.length - (ns.eraseIdx i).length) [Value.int .i64 0, .int .i64 0]).flatten = [.int .i64 0, .int .i64 0] := by
      rw [show ns.length - (ns.eraseIdx i).length = 1 by omega]; rfl
    refine onPtrI ?_
    rw [hr]
    refine ⟨cs, ty, hbb, by simp only [List.length_cons, List.length_nil]; omega, hq _ ⟨g1, by omega, .inr ⟨b, _, ty, rfl, upd_at, ?_, ?_, hz⟩⟩ (hx2.upd hz) fun x hxx => ?_⟩
    · rw [setR_length (by simp only [List.length_cons, List.length_nil]; omega)]; exact hl
    · unfold setR
      rw [Nat.zero_add, List.append_assoc, List.take_append_of_le_length (by rw [List.length_take]; omega), List.take_take, Nat.min_self, ht]
    · by_cases hxb : x = b
      · subst hxb; exact ⟨_, _, rfl⟩
      · rw [upd_off hxb] at hxx
        exact (hch x hxx).1
/-- A note is taken away, by the one program. -/
theorem take48 (h : AS H0 H g bs cS s) {i : Nat} {pi pj : Int} (hi : i < s.ns.length) (hpi : pi = i) (hpj : pj = (i + 1 : Nat)) (hq : ∀ H', AS H0 H' g bs cS (s.take i) → K H') :
    ∃ A cn, cl H g 1 = some (.slice A s.ns.length cn) ∧ HCalls Try.prog 48 [.slice A s.ns.length cn, .int .i64 pi, .int .i64 pj] H fun v9 H10 => ∃ (A11 : Option Addr) (n11 c11 : Nat), v9 = .slice A11 n11 c11 ∧ storeF H10 g 1 [.slice A11 n11 c11] fun H12 => K H12 := by
  obtain ⟨r0, r1, An, cn, h0, h1, h⟩ := h
  obtain ⟨ty, hg⟩ := h.gb
  obtain ⟨s1, ⟨s2, s3, s4⟩, ⟨s5, s6, s7⟩, s8, s9⟩ := h.sep
  refine ⟨An, cn, h.cl1, c48 h.nt h.ext hi hpi hpj h.small.2.2 fun H' hrow hx hch => ⟨_, _, _, rfl, ?_⟩⟩
  have keep : ∀ b, ¬ rowB An b → H' b = H b := fun b h1 => Classical.byContradiction fun h3 => h1 (hch b h3)
  refine ⟨_, ty, (keep g s4).trans hg, by simp, hq _ ⟨r0, r1, An, cn, h0, h1, h.setN (hx.upd h.own.1) ((upd_off (Ne.symm s1)).trans (keep bs s7)) ⟨ty, by rw [upd_at]; rfl⟩ (hrow.keep fun b hb => upd_off (fun e => s4 (e ▸ hb))) (fun b hb => .inl hb) (fun b hb => ?_) ?_⟩⟩
  · have hne : b ≠ g := fun e => by
      subst e
      rcases hb with hb | hb
      · exact s2 hb
      · exact s3 hb
    rw [upd_off hne]
    refine keep b fun hn => ?_
    rcases hb with hb | hb
    · exact (s8 b hb).2 hn
    · exact s9 b hb hn
  · have := h.small.2.2
    unfold ST.take
    simp only
    rw [List.length_eraseIdx]; split <;> omega
/-- The other program's way. -/
theorem c52 (h : AS H0 H g bs cS s) {i : Nat} {pi : Int} (hi : i < s.ns.length) (hpi : pi = i) (hq : ∀ H', AS H0 H' g bs cS (s.take i) → Q (.tuple #[]) H') : HCalls Try.prog 52 [.pointer (some ⟨g, 0, none⟩), .int .i64 pi] H Q := by
  refine f52.ok g 0 _ ?_
  unfold f52
  subst hpi
  obtain ⟨r0, r1, An, cn, h0, h1, h⟩ := h
  obtain ⟨ty, hg⟩ := h.gb
  obtain ⟨s1, ⟨s2, s3, s4⟩, ⟨s5, s6, s7⟩, s8, s9⟩ := h.sep
  have hb := h.small.2.2
  have hc : s.ns.length ≤ cn := h.nt.2.1
  unfold big at hb
  have hlen : (s.ns.eraseIdx i).length = s.ns.length - 1 := by rw [List.length_eraseIdx]; simp [hi]
  rw [wrap_id (by omega) (by omega), show ((i : Nat) : Int) + 1 = ((i + 1 : Nat) : Int) by omega]
  refine ⟨_, _, _, h.cl1, by omega, by omega, by omega, by omega, _, _, _, h.cl1, by omega, by omega, ?_⟩
  simp only [Int.toNat_natCast, Nat.sub_zero, cut0]
  have Rc := h.nt.cut (i := i) (c' := i) (by omega) (by omega) (by omega) (by omega)
  refine Rc.append h.ext (h.nt.tail (j := i + 1) (by omega)) (by rw [List.length_drop, notes_len]; omega) notes_one (by omega) (by omega) ?_
  intro A' c' H2 hrow hx2 hch hnew hin
  rw [← notes_erase hi] at hrow
  have en : i + (s.ns.length - (i + 1)) = (s.ns.eraseIdx i).length := by omega
  rw [en] at hrow ⊢
  have keep : ∀ b, ¬ rowB An b → H b ≠ none → H2 b = H b := fun b h1 h2 => Classical.byContradiction fun h3 => by
    rcases (hch b h3).2 with h4 | h4
    · exact h1 h4
    · exact h2 h4
  have hnb : ¬ rowB A' g := fun hb => by
    rcases hnew g hb with h1 | h1
    · exact s4 h1
    · exact h.live.1 h1
  refine ⟨_, ty, (keep g s4 h.live.1).trans hg, by simp, hq _ ⟨r0, r1, A', c', h0, h1, h.setN (hx2.upd h.own.1) ((upd_off (Ne.symm s1)).trans (keep bs s7 h.live.2)) ⟨ty, by rw [upd_at]; rfl⟩ (hrow.keep fun b hb => upd_off (fun e => hnb (e ▸ hb))) hnew (fun b hb => ?_) ?_⟩⟩
  · have hne : b ≠ g := fun e => by
      subst e
      rcases hb with hb | hb
      · exact s2 hb
      · exact s3 hb
    rw [upd_off hne]
    refine keep b (fun hn => ?_) ?_
    · rcases hb with hb | hb
      · exact (s8 b hb).2 hn
      · exact s9 b hb hn
    · rcases hb with hb | hb
      · exact (h.l0.lt hb).1
      · exact (h.l1.lt hb).1
  · unfold ST.take big; simp only; omega
end
end Go.Proofs.Ytkkmoeimcedkgaa.Hw
