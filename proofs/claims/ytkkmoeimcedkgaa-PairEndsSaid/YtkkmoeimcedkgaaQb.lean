/- The law PairWhole: its function returns true, for all acts that come in. -/
import Derived.Test.YtkkmoeimcedkgaaQa
set_option linter.unusedVariables false
set_option linter.unusedSimpArgs false
namespace Go.Proofs.Ytkkmoeimcedkgaa.Hw
open Go Go.Proofs
theorem chk_whole : (S0.all fun a => S1.all fun b => !okS a b || (!((a.log.any ((3 : Int) == ·) || b.log.any ((3 : Int) == ·)) && (a.log.any ((4 : Int) == ·) || b.log.any ((4 : Int) == ·))) && !(a.log.any ((3 : Int) == ·) && !b.log.any ((2 : Int) == ·)) && !(b.log.any ((3 : Int) == ·) && !a.log.any ((3 : Int) == ·)))) = true := by decide +kernel
theorem whole_facts {a b : Side} (h : okS a b = true) : (b.log.any ((3 : Int) == ·) = true → a.log.any ((3 : Int) == ·) = true) ∧ (a.log.any ((3 : Int) == ·) = true → b.log.any ((2 : Int) == ·) = true) ∧ ((a.log.any ((3 : Int) == ·) || b.log.any ((3 : Int) == ·)) = true → (a.log.any ((4 : Int) == ·) || b.log.any ((4 : Int) == ·)) = false) := by
  have hlaw := of_all chk_whole h
  generalize a.log.any ((3 : Int) == ·) = D0 at hlaw ⊢
  generalize b.log.any ((3 : Int) == ·) = D1 at hlaw ⊢
  generalize b.log.any ((2 : Int) == ·) = R1 at hlaw ⊢
  generalize (a.log.any ((4 : Int) == ·) || b.log.any ((4 : Int) == ·)) = G at hlaw ⊢
  revert hlaw
  revert D0 D1 R1 G
  decide
theorem grow_facts {a b : Side} (h : grow a b = true) : a.log.length ≤ b.log.length ∧ (∀ (k : Nat) (x : Int), a.log[k]? = some x → b.log[k]? = some x) ∧ (lastP a.log = 3 ∨ lastP a.log = 4 → b.log.length = a.log.length) := by
  unfold grow at h
  simp only [Bool.and_eq_true, List.isPrefixOf_iff_prefix] at h
  obtain ⟨⟨t, ht⟩, h2⟩ := h
  refine ⟨by rw [← ht]; simp, fun k x hk => ?_, fun hl => ?_⟩
  · rw [← ht, List.getElem?_append_left (List.getElem?_eq_some_iff.1 hk).1]; exact hk
  · have : (lastP a.log == 3 || lastP a.log == 4) = true := by simpa using hl
    rw [this] at h2
    have : a.log = b.log := by simpa using h2
    rw [this]
theorem last_get {l : List Int} (h : 0 < l.length) : l[l.length - 1]? = some (lastP l) := by
  unfold lastP
  rw [← List.getLast?_eq_getElem?]
  cases hl : l.getLast? with
  | none => rw [List.getLast?_eq_none_iff] at hl; subst hl; simp at h
  | some x => rfl
theorem InvP.two_of {p : PS} {l : List RS} {ns : List (Int × Int)} (h : InvP p) (e : psOf l ns = p) : ∃ r0 r1, l = [r0, r1] ∧ side0 p = r0.side ∧ side1 p = r1.side ∧ p.notes = ns := by
  obtain ⟨⟨a, b, hp⟩, _, _⟩ := h
  subst e
  unfold psOf at hp
  match l, hp with
  | [r0, r1], _ => exact ⟨r0, r1, rfl, rfl, rfl, rfl⟩
section
variable {H0 H H' : Hp} {Q : Value → Hp → Prop}
theorem sz_run {l : List Act3} {lr : List RS} {ns : List (Int × Int)} (h : l.length ≤ 300) (e : psOf lr ns = runP newP l) : partsP lr ns + 2 < big := by
  rw [← sizeP_ps, e]
  have := run_size (p := newP) (l := l)
  have h2 : sizeP newP = 2 := by decide
  unfold big; omega
theorem c5 {A : Option Addr} {n c : Nat} {l : List Act3} (hA : ActsAt H A n l) (hq : ∀ H', Ext H H' → Q (.bool true) H') : HCalls Try.prog 5 [.slice A n c] H Q := by
  refine f5.ok _ _ _ ?_
  unfold f5
  obtain rfl := hA.len
  refine cndI (fun h => c9 fun H' hx => ⟨_, rfl, hq _ hx⟩) (fun h => ?_)
  have hl : l.length ≤ 300 := by simp at h; omega
  refine c24 fun g H5 lr0 x5 hp5 e5 => ⟨_, _, _, _, _, _, rfl, ?_⟩
  refine loop_to l.length (fun i s H' => ∃ B0 m0 d0 B1 m1 d1 lr ns, s = (((i : Int), ()), (((B0, m0, d0), ((B1, m1, d1), ())), ())) ∧ Ext H H' ∧ PairAt H' B0 m0 B1 m1 lr ns ∧ psOf lr ns = runP newP (l.take i))
    ⟨_, _, _, _, _, _, lr0, [], rfl, x5, hp5, e5⟩ ?_
  rintro i s H9 next hi ⟨B0, m0, d0, B1, m1, d1, lr, ns, rfl, x9, hp9, e9⟩ hnext
  dsimp only
  by_cases hil : i < l.length
  rotate_left
  · exact cndF (by simp; omega) (c9 fun H' hx => ⟨_, rfl, hq _ (x9.trans hx)⟩)
  refine cndT (by simpa using hil) ?_
  obtain ⟨a, ha⟩ : ∃ a, l[i]? = some a := ⟨_, List.getElem?_eq_getElem hil⟩
  have htk : l.take (i + 1) = l.take i ++ [a] := by rw [List.take_add_one, ha]; rfl
  have hinv : InvP (runP newP (l.take i)) := InvP.run InvP.new
  obtain ⟨q0, q1, rfl, s0, s1, _⟩ := hinv.two_of e9
  obtain rfl : m0 = 2 := hp9.sides.len
  refine jn_intro (fun J => ∀ B0 m0 d0 B1 m1 d1 H' lr ns, Ext H9 H' → PairAt H' B0 m0 B1 m1 lr ns → psOf lr ns = runP newP (l.take (i + 1)) → J B0 m0 d0 B1 m1 d1 H') ?_ ?_
  · intro B0 m0 d0 B1 m1 d1 H' lr ns hx hp he
    refine ⟨rfl, ?_⟩
    rw [wrap_id (by omega) (by omega)]
    exact hnext _ _ hil ⟨B0, m0, d0, B1, m1, d1, lr, ns, rfl, x9.trans hx, hp, he⟩
  intro J176 hJ
  have hA9 := hA.ext x9
  refine ⟨by simp, by simpa using hil, rd_act hA9 ha fun b o _ k1 k2 k3 => ⟨a.1, by simpa using k1, a.2.1, by simpa using k2, a.2.2, by simpa using k3, ?_⟩⟩
  refine c11 hp9 (sz_run (l := l.take i) (by rw [List.length_take]; omega) e9) fun C k e C' k' e' H16 l2 ns2 x16 hp16 e16 => ⟨_, _, _, _, _, _, _, rfl, cndI (fun hne => ?_) (fun heq => ?_)⟩
  · refine hJ _ _ _ _ _ _ _ _ _ x16 (hp9.ext x16) ?_
    rw [htk, runP_snoc, ← e9]
    unfold stepP
    rw [if_neg (by simpa using hne)]
  have h0 : doCode (psOf [q0, q1] ns) a.1 a.2.1 a.2.2 = 0 := by simpa using heq
  have hrun : psOf l2 ns2 = runP newP (l.take (i + 1)) := by
    rw [htk, runP_snoc, ← e9, e16]
    unfold stepP
    rw [if_pos h0]
  rw [e9] at h0 e16
  obtain ⟨hinv2, hg0, hg1⟩ := hinv.do h0
  obtain ⟨r0, r1, rfl, t0, t1, _⟩ := hinv2.two_of e16
  obtain rfl : k = 2 := hp16.sides.len
  rw [s0, t0] at hg0
  rw [s1, t1] at hg1
  have hs2 := hinv2.inv.sides
  have hst : okS r0.side r1.side = true := by rw [← t0, ← t1]; exact hs2
  obtain ⟨f1, f2, f3⟩ := whole_facts hst
  have hp9' := hp9.ext x16
  have g0 := hp16.sides.logs r0 (by simp)
  have g1 := hp16.sides.logs r1 (by simp)
  simp only [RS.side] at f1 f2 f3
  have rd0 : ∀ {K : Nat → Nat → Prop}, _ → onPtr C K := fun {K} hk => rd_side (K := K) hp16.sides (i := 0) rfl hk
  have rd1 : ∀ {K : Nat → Nat → Prop}, _ → onPtr C K := fun {K} hk => rd_side (K := K) hp16.sides (i := 1) rfl hk
  refine cndF (by simp) ?_
  refine jn_intro (fun J => J (r0.log.any ((3 : Int) == ·) || r1.log.any ((3 : Int) == ·)) H16) ?_ ?_
  rotate_left
  · intro J36 hJ36
    refine ⟨by omega, by omega, rd0 fun b o _ k1 k2 k3 => ⟨r0.ph, by simpa using k1, r0.up, by simpa using k2, r0.A, r0.n, r0.c, by simpa using k3, c25 g0 ⟨_, rfl, cndI (fun h => ?_) (fun h => ?_)⟩⟩⟩
    · rw [h] at hJ36; exact hJ36
    · rw [h, Bool.false_or] at hJ36
      exact ⟨by omega, by omega, rd1 fun b o _ k1 k2 k3 => ⟨r1.ph, by simpa using k1, r1.up, by simpa using k2, r1.A, r1.n, r1.c, by simpa using k3, c25 g1 ⟨_, rfl, hJ36⟩⟩⟩
  refine jn_intro (fun J => J (r0.log.any ((4 : Int) == ·) || r1.log.any ((4 : Int) == ·)) H16) ?_ ?_
  rotate_left
  · intro J53 hJ53
    refine ⟨by omega, by omega, rd0 fun b o _ k1 k2 k3 => ⟨r0.ph, by simpa using k1, r0.up, by simpa using k2, r0.A, r0.n, r0.c, by simpa using k3, c25 g0 ⟨_, rfl, cndI (fun h => ?_) (fun h => ?_)⟩⟩⟩
    · rw [h] at hJ53; exact hJ53
    · rw [h, Bool.false_or] at hJ53
      exact ⟨by omega, by omega, rd1 fun b o _ k1 k2 k3 => ⟨r1.ph, by simpa using k1, r1.up, by simpa using k2, r1.A, r1.n, r1.c, by simpa using k3, c25 g1 ⟨_, rfl, hJ53⟩⟩⟩
  refine jn_intro (fun J => J false H16) ?_ ?_
  rotate_left
  · intro J140 hJ140
    have at0 : ∀ {K : Bool → Hp → Prop} (p : Int), K (r0.log.any (p == ·)) H16 → (0 ≤ (0 : Int) ∧ (0 : Int) < ((2 : Nat) : Int) ∧ onPtr C fun b o => ∃ x : Int, cl H16 b (o + (0 : Int).toNat * 3) = some (.int .i64 x) ∧ ∃ y : Bool, cl H16 b ((o + (0 : Int).toNat * 3) + 1) = some (.bool y) ∧ ∃ (A : Option Addr) (n c : Nat), cl H16 b (((o + (0 : Int).toNat * 3) + 1) + 1) = some (.slice A n c) ∧ HCalls Try.prog 25 [.agg #[.int .i64 x, .bool y, .slice A n c], .int .i64 p] H16 fun v H1 => ∃ z : Bool, v = .bool z ∧ K z H1) := fun {K} p hK =>
      ⟨by omega, by omega, rd0 fun b o _ k1 k2 k3 => ⟨r0.ph, by simpa using k1, r0.up, by simpa using k2, r0.A, r0.n, r0.c, by simpa using k3, c25 g0 ⟨_, rfl, hK⟩⟩⟩
    have at1 : ∀ {K : Bool → Hp → Prop} (p : Int), K (r1.log.any (p == ·)) H16 → (0 ≤ (1 : Int) ∧ (1 : Int) < ((2 : Nat) : Int) ∧ onPtr C fun b o => ∃ x : Int, cl H16 b (o + (1 : Int).toNat * 3) = some (.int .i64 x) ∧ ∃ y : Bool, cl H16 b ((o + (1 : Int).toNat * 3) + 1) = some (.bool y) ∧ ∃ (A : Option Addr) (n c : Nat), cl H16 b (((o + (1 : Int).toNat * 3) + 1) + 1) = some (.slice A n c) ∧ HCalls Try.prog 25 [.agg #[.int .i64 x, .bool y, .slice A n c], .int .i64 p] H16 fun v H1 => ∃ z : Bool, v = .bool z ∧ K z H1) := fun {K} p hK =>
      ⟨by omega, by omega, rd1 fun b o _ k1 k2 k3 => ⟨r1.ph, by simpa using k1, r1.up, by simpa using k2, r1.A, r1.n, r1.c, by simpa using k3, c25 g1 ⟨_, rfl, hK⟩⟩⟩
    have hn : r1.log.any ((3 : Int) == ·) = true → J140 (!(r0.log.any ((3 : Int) == ·))) H16 := fun h => by rw [f1 h]; exact hJ140
    refine cndI (fun hd => cndF (f3 hd) ?_) (fun hd => ?_)
    · refine at0 3 (cndI (fun h0 => at1 2 (cndF (by rw [f2 h0]; rfl) (at1 3 (cndI (fun h1 => at0 3 (hn h1)) (fun _ => hJ140))))) (fun h0 => at1 3 (cndI (fun h1 => at0 3 (hn h1)) (fun _ => hJ140))))
    · refine at0 3 (cndI (fun h0 => at1 2 (cndF (by rw [f2 h0]; rfl) (at1 3 (cndI (fun h1 => at0 3 (hn h1)) (fun _ => hJ140))))) (fun h0 => at1 3 (cndI (fun h1 => at0 3 (hn h1)) (fun _ => hJ140))))
  refine cndF rfl ?_
  refine scan (n := 2) (by omega) (fun i H' => H' = H16) rfl ?_ ?_
  rotate_left
  · rintro H' next2 rfl
    exact cndF rfl (hJ _ _ _ _ _ _ _ _ _ x16 hp16 hrun)
  rintro j H' next2 hj rfl hnext2
  dsimp only
  refine cndT (decide_eq_true (by omega)) ?_
  obtain ⟨qa, ra, hqa, hra, hg⟩ : ∃ qa ra, [q0, q1][j]? = some qa ∧ [r0, r1][j]? = some ra ∧ grow qa.side ra.side = true := by
    have : j = 0 ∨ j = 1 := by omega
    rcases this with rfl | rfl
    · exact ⟨q0, r0, rfl, rfl, hg0⟩
    · exact ⟨q1, r1, rfl, rfl, hg1⟩
  have gq := hp9'.sides.logs qa (List.mem_of_getElem? hqa)
  have gr := hp16.sides.logs ra (List.mem_of_getElem? hra)
  obtain ⟨hle, hpre, hend⟩ := grow_facts hg
  simp only [RS.side] at hle hpre hend
  have rdq : ∀ {K : Nat → Nat → Prop}, _ → onPtr B0 K := fun {K} hk => rd_side (K := K) hp9'.sides hqa hk
  have rdr : ∀ {K : Nat → Nat → Prop}, _ → onPtr C K := fun {K} hk => rd_side (K := K) hp16.sides hra hk
  have hqn := gq.1
  have hrn := gr.1
  have big1 := gq.2.2
  unfold huge at big1
  refine ⟨by omega, by omega, rdq fun b o _ _ _ k3 => ⟨qa.A, qa.n, qa.c, by simpa using k3, by omega, by omega, rdr fun b o _ _ _ k3 => ⟨ra.A, ra.n, ra.c, by simpa using k3, ?_⟩⟩⟩
  refine jn_intro (fun J => J false) (cndF rfl ?_) fun J157 h157 => ?_
  rotate_left
  · refine cndF (by simp; omega) (cndI (fun hpos => ?_) (fun _ => h157))
    have hpos : 0 < qa.n := by simpa using hpos
    have hlast := last_get (l := qa.log) (by omega)
    rw [wrap_id (by omega) (by omega)]
    have ei : (((qa.n : Nat) : Int) - 1).toNat = qa.log.length - 1 := by omega
    have fin : lastP qa.log = 3 ∨ lastP qa.log = 4 → J157 (decide ((((ra.n : Nat) : Int) : Int) > ((qa.n : Nat) : Int))) := fun h => by
      have := hend h
      rw [decide_eq_false (by omega)]
      exact h157
    refine ⟨by omega, by omega, rdq fun b o _ _ _ k3 => ⟨qa.A, qa.n, qa.c, by simpa using k3, by omega, by omega, rd_ints gq.2.1 hlast fun b o _ k1 => ⟨lastP qa.log, by rw [ei]; simpa using k1, cndI (fun h => fin (.inl (by simpa using h))) (fun h => ?_)⟩⟩⟩
    refine ⟨by omega, by omega, rdq fun b o _ _ _ k3 => ⟨qa.A, qa.n, qa.c, by simpa using k3, by omega, by omega, rd_ints gq.2.1 hlast fun b o _ k1 => ⟨lastP qa.log, by rw [ei]; simpa using k1, cndI (fun h => fin (.inr (by simpa using h))) (fun h => h157)⟩⟩⟩
  refine scan (n := qa.n) (by omega) (fun i H' => H' = _) rfl ?_ ?_
  rotate_left
  · rintro H' next3 rfl
    exact cndF (by simp) ⟨rfl, hnext2 _ rfl⟩
  rintro k H' next3 hk hH hnext3
  subst hH
  obtain ⟨x, hx⟩ : ∃ x, qa.log[k]? = some x := ⟨_, List.getElem?_eq_getElem (by omega)⟩
  have hy := hpre k x hx
  refine cndT (by simpa using hk) ⟨by omega, by omega, rdq fun b o _ _ _ k3 => ⟨qa.A, qa.n, qa.c, by simpa using k3, by simp, by simpa using hk, rd_ints gq.2.1 hx fun b o _ k1 => ⟨x, by simpa using k1, by omega, by omega, rdr fun b o _ _ _ k3 => ⟨ra.A, ra.n, ra.c, by simpa using k3, by simp, by simp; omega, rd_ints gr.2.1 hy fun b o _ k1 => ⟨x, by simpa using k1, cndF (by simp) ⟨rfl, hnext3 _ rfl⟩⟩⟩⟩⟩⟩
end
end Go.Proofs.Ytkkmoeimcedkgaa.Hw
