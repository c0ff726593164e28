/- The law PairAlone: its function returns true, for all acts that come in. -/
import Derived.Test.YtkkmoeimcedkgaaQb
set_option linter.unusedVariables false
set_option linter.unusedSimpArgs false
namespace Go.Proofs.Ytkkmoeimcedkgaa.Hw
open Go Go.Proofs
theorem drop_code {p : PS} (h : InvP p) : doCode p 9 1 0 = if ((side1 p).up && (side1 p).ph == 1) = true then 0 else 5 := by
  have hf := h.few
  have e : ((stOf p).eff 9 1 0).ns.length ≤ 20 := hf
  have ec : (stOf p).code 9 1 0 = if ((side1 p).up && (side1 p).ph == 1) = true then 0 else 5 := by
    have : (stOf p).can 9 1 0 = ((side1 p).up && ((side1 p).ph == 1 || false)) := rfl
    unfold ST.code
    rw [this, Bool.or_false]
    rfl
  unfold doCode
  rw [h.formed, ec, if_pos e]
  simp only [Bool.true_and, show (decide ((1 : Int) ≤ 9) && decide ((9 : Int) ≤ 9)) = true from rfl, if_true]
  split <;> simp_all
theorem drop_ph {p : PS} (h : doCode p 9 1 0 = 0) : (side1 (doPair p 9 1 0)).ph = 4 := by
  unfold doPair
  rw [if_pos h]
  rfl
theorem alone {p : PS} (h : InvP p) {op sd nt : Int} (hc : doCode p op sd nt = 0) (hu : (side1 p).up = true) (hp : (side1 p).ph = 2) (h3 : op ≠ 3) (h6 : op ≠ 6) : side1 (doPair p op sd nt) = side1 p := by
  unfold doPair
  rw [if_pos hc]
  unfold doCode at hc
  split at hc
  rotate_left
  · cases hc
  rename_i hop
  simp only [Bool.and_eq_true, decide_eq_true_eq] at hop
  split at hc
  rotate_left
  · rename_i hne; exact absurd hc hne
  rename_i hcode
  have e1 : side1 p = (stOf p).s1 := rfl
  have e2 : side1 (psT ((stOf p).eff op sd nt)) = ((stOf p).eff op sd nt).s1 := rfl
  rw [e1] at hu hp ⊢
  rw [e2]
  generalize stOf p = s at hu hp hcode ⊢
  unfold ST.code at hcode
  split at hcode
  rotate_left
  · cases hcode
  rename_i hr
  split at hcode
  rotate_left
  · cases hcode
  rename_i hcan
  have hcases : op = 1 ∨ op = 2 ∨ op = 4 ∨ op = 5 ∨ op = 7 ∨ op = 8 ∨ op = 9 := by omega
  rcases hcases with rfl | rfl | rfl | rfl | rfl | rfl | rfl
  · simp [ST.can, hp] at hcan
  · rfl
  · rfl
  · rfl
  · have hrr : 0 ≤ sd ∧ sd ≤ 1 := by simpa [ST.inRange] using hr
    have hsd : sd = 0 ∨ sd = 1 := by omega
    rcases hsd with rfl | rfl
    · simp only [ST.eff, ST.start]
      by_cases hl : 0 < s.s0.log.length <;> simp [ST.up0, ST.ph0, hl]
    · simp [ST.can, ST.upAt, hu] at hcan
  · rfl
  · have hrr : 0 ≤ sd ∧ sd ≤ 1 := by simpa [ST.inRange] using hr
    have hsd : sd = 0 ∨ sd = 1 := by omega
    rcases hsd with rfl | rfl
    · rfl
    · simp [ST.can, ST.upAt, ST.phAt, hp] at hcan
section
variable {H0 H H' : Hp} {Q : Value → Hp → Prop}
theorem c7 {A : Option Addr} {n c : Nat} {l : List Act3} {op sd nt : Int} (hA : ActsAt H A n l) (hq : ∀ H', Ext H H' → Q (.bool true) H') : HCalls Try.prog 7 [.slice A n c, .agg #[.int .i64 op, .int .i64 sd, .int .i64 nt]] H Q := by
  refine f7.ok _ _ _ _ _ _ ?_
  unfold f7
  obtain rfl := hA.len
  refine cndI (fun h => c9 fun H' hx => ⟨_, rfl, hq _ hx⟩) (fun h => ?_)
  have hl : l.length ≤ 300 := by simp at h; omega
  refine c22 hA (by omega) fun A6 n6 c6 A7 n7 c7 B8 c8 H5 l5 ns5 x5 hp5 e5 _ => ⟨_, _, _, _, _, _, _, _, _, rfl, ?_⟩
  have hinv : InvP (runP newP l) := InvP.run InvP.new
  obtain ⟨q0, q1, rfl, s0, s1, _⟩ := hinv.two_of e5
  obtain rfl : n6 = 2 := hp5.sides.len
  have sz := sz_run hl e5
  have gq := hp5.sides.logs q1 (by simp)
  refine cndF rfl ⟨by omega, by omega, rd_side hp5.sides (i := 1) rfl fun b o _ k1 k2 k3 => ⟨q1.ph, by simpa using k1, q1.up, by simpa using k2, q1.A, q1.n, q1.c, by simpa using k3, ?_⟩⟩
  refine c11 hp5 sz fun A15 n15 c15 A16 n16 c16 H14 l14 ns14 x14 hp14 e14 => ⟨_, _, _, _, _, _, _, rfl, ?_⟩
  rw [e5] at e14 ⊢
  refine jn_intro (fun J => J) ?_ fun J24 hJ => ?_
  · refine c11 (hp5.ext x14) sz fun A27 n27 c27 A28 n28 c28 H26 l26 ns26 x26 hp26 e26 => ⟨_, _, _, _, _, _, _, rfl, ?_⟩
    rw [e5] at e26 ⊢
    have x := (x5.trans x14).trans x26
    have aw : ∀ {H'}, Ext H H' → HCalls Try.prog 9 [] H' fun v32 H33 => ∃ x34 : Bool, v32 = .bool x34 ∧ Q (.bool x34) H33 := fun hx => c9 fun H' hx' => ⟨_, rfl, hq _ (hx.trans hx')⟩
    unfold jn
    dsimp only
    refine cndI (fun _ => cndT rfl (aw x)) (fun h1 => cndI (fun _ => cndT rfl (aw x)) (fun h2 => cndI (fun _ => cndT rfl (aw x)) (fun h3 => cndI (fun _ => cndT rfl (aw x)) (fun h4 => cndI (fun _ => aw x) (fun h5 => ?_)))))
    have hc : doCode (runP newP l) op sd nt = 0 := by simpa using h1
    have hal := alone hinv hc (by rw [s1]; simpa [RS.side] using h2) (by rw [s1]; simpa [RS.side] using h3) (by simpa using h4) (by simpa using h5)
    obtain ⟨hinv2, _, _⟩ := hinv.do hc
    obtain ⟨r0, r1, rfl, t0, t1, _⟩ := hinv2.two_of e26
    obtain rfl : n27 = 2 := hp26.sides.len
    have er : r1.side = q1.side := by rw [← t1, ← s1, hal]
    have g26 := hp26.sides.logs r1 (by simp)
    have eph : r1.ph = q1.ph := congrArg Side.ph er
    have elog : r1.log.length = q1.log.length := congrArg (fun s : Side => s.log.length) er
    have h3' : q1.ph = 2 := by simpa using h3
    refine cndT rfl ⟨by omega, by omega, rd_side hp26.sides (i := 1) rfl fun b o _ k1 _ k3 => ⟨r1.ph, by simpa using k1, cndT (by rw [eph, h3']; rfl) ⟨by omega, by omega, rd_side hp26.sides (i := 1) rfl fun b o _ _ _ k3 => ⟨r1.A, r1.n, r1.c, by simpa using k3, cndT (by rw [beq_iff_eq, g26.1, gq.1, elog]) ?_⟩⟩⟩⟩
    exact c9 fun H' hx' => ⟨_, rfl, hq _ (x.trans hx')⟩
  · unfold jn
    dsimp only
    have hcode := drop_code hinv
    have good : (q1.up && q1.ph == 1) = true → cnd (doCode (runP newP l) 9 1 0 != 0) (Q (.bool false) H14) J24 := fun h => by
      rw [s1, show (q1.side.up && q1.side.ph == 1) = true from h, if_pos rfl] at hcode
      rw [hcode]; exact hJ
    refine cndI (fun hu => cndI (fun hw => ?_) (fun hw => ?_)) (fun hu => cndF rfl ?_)
    · rw [s1, show (q1.side.up && q1.side.ph == 1) = true by simp only [RS.side]; rw [hu, hw]; rfl, if_pos rfl] at hcode
      have hph := drop_ph hcode
      obtain ⟨hinv2, _, _⟩ := hinv.do hcode
      obtain ⟨r0, r1, rfl, t0, t1, _⟩ := hinv2.two_of e14
      obtain rfl : n15 = 2 := hp14.sides.len
      have eph : r1.ph = 4 := by rw [t1] at hph; exact hph
      rw [hcode]
      refine cndF rfl (cndF rfl ⟨by omega, by omega, rd_side hp14.sides (i := 1) rfl fun b o _ k1 _ _ => ⟨r1.ph, by simpa using k1, cndF (by rw [eph]; rfl) hJ⟩⟩)
    · rw [s1, show (q1.side.up && q1.side.ph == 1) = false by simp only [RS.side]; rw [hu, hw]; rfl] at hcode
      rw [hcode]
      exact hJ
    · rw [s1, show (q1.side.up && q1.side.ph == 1) = false by simp only [RS.side]; rw [hu]; rfl] at hcode
      rw [hcode]
      exact hJ
end
end Go.Proofs.Ytkkmoeimcedkgaa.Hw
