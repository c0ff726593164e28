/- The pair: Do, of either program. -/
import Derived.Test.YtkkmoeimcedkgaaPm
set_option linter.unusedVariables false
set_option linter.unusedSimpArgs false
namespace Go.Proofs.Ytkkmoeimcedkgaa.Hw
open Go Go.Proofs
def stOf (p : PS) : ST := ⟨side0 p, side1 p, p.notes⟩
def psT (s : ST) : PS := ⟨[s.s0, s.s1], s.ns⟩
def doCode (p : PS) (op sd nt : Int) : Int :=
  if formed p && decide (1 ≤ op) && decide (op ≤ 9) then
    (if (stOf p).code op sd nt = 0 then (if ((stOf p).eff op sd nt).ns.length ≤ 20 then 0 else 3) else (stOf p).code op sd nt)
  else 2
def doPair (p : PS) (op sd nt : Int) : PS := if doCode p op sd nt = 0 then psT ((stOf p).eff op sd nt) else ⟨[], []⟩
section
variable {H0 H H' : Hp} {Q : Value → Hp → Prop} {K : Hp → Prop}
theorem PairAt.nil : PairAt H none 0 none 0 [] [] := ⟨⟨rfl, .inl rfl, fun r hr => by cases hr⟩, ⟨rfl, .inl rfl⟩, by unfold huge; simp⟩
theorem Own.act {B0 B1 : Option Addr} {d0 d1 ty : Nat} {r0 r1 : RS} {ns : List (Int × Int)} (o : Own H0 H B0 d0 B1 d1 [r0, r1] ns) (hns : ns.length < big) {K : Nat → Hp → Prop} (hk : ∀ g H' bs, AS H0 H' g bs d0 ⟨r0.side, r1.side, ns⟩ → K g H') :
    newF H ty [.slice B0 2 d0, .slice B1 ns.length d1] K := by
  intro g hg
  obtain ⟨h1, h2, ⟨h3, h4⟩ | ⟨bs, cs, ty2, rfl, hb, hl, ht, hz⟩⟩ := o.sides
  · simp at h2; omega
  have hne : ∀ x, H x ≠ none → (upd g (.cells [Value.slice (some ⟨bs, 0, none⟩) 2 d0, .slice B1 ns.length d1].toArray ty (0, 0)) H) x = H x := fun x hx => upd_off (fun e => hx (e ▸ hg))
  have g0 := o.logs r0 (by simp)
  have g1 := o.logs r1 (by simp)
  have live : ∀ {A n c e v}, Row H0 H A n c e v → ¬ rowB A g := fun R h => (R.lt h).1 hg
  have hcs : cs = (RS.cells r0 ++ RS.cells r1) ++ cs.drop 6 := by
    have e : cs.take 6 = RS.cells r0 ++ RS.cells r1 := by
      have := ht
      simp only [List.length_cons, List.length_nil, List.flatMap_cons, List.flatMap_nil, List.append_nil] at this
      exact this
    rw [← e, List.take_append_drop]
  have s0 := o.sepS bs ⟨_, _, rfl⟩
  have sl := o.sepL
  simp only [List.pairwise_cons, List.mem_singleton, forall_eq, List.not_mem_nil, false_implies, implies_true, List.Pairwise.nil, and_true] at sl
  refine hk g _ bs ⟨r0, r1, B1, d1, rfl, rfl, o.ext.upd (o.ext.none hg), ⟨ty, by rw [upd_at]⟩, ⟨ty2, cs.drop 6, ?_⟩, g0.1.keep (fun b hb => hne b (g0.1.lt hb).1), g1.1.keep (fun b hb => hne b (g1.1.lt hb).1), o.notes.keep (fun b hb => hne b (o.notes.lt hb).1), ⟨o.ext.none hg, hz⟩, ⟨fun e => ?_, ⟨live g0.1, live g1.1, live o.notes⟩, ⟨s0.2 r0 (by simp), s0.2 r1 (by simp), s0.1⟩, fun b hb => ⟨sl b hb, fun h => o.sepN b h r0 (by simp) hb⟩, fun b hb h => o.sepN b h r1 (by simp) hb⟩, g0.2, g1.2, hns⟩
  · rw [hne bs (by rw [hb]; simp), hb]
    rw [hcs]
    simp [RS.cells]
  · rw [e, hb] at hg; cases hg
theorem noteOk_to {ns : List (Int × Int)} (h : ns.all noteOk = true) : ∀ n ∈ ns, n.1 = 0 ∨ n.1 = 1 := fun n hn => by
  have := List.all_eq_true.1 h n hn
  unfold noteOk at this
  simp only [Bool.and_eq_true, decide_eq_true_eq] at this
  omega
section
variable {A0 A1 : Option Addr} {n0 c0 n1 c1 : Nat} {l : List RS} {ns : List (Int × Int)} {op sd nt : Int}
theorem formed_notes (h : formed (psOf l ns) = true) : ∀ n ∈ ns, n.1 = 0 ∨ n.1 = 1 := by
  rw [formed_eq] at h
  simp only [Bool.and_eq_true] at h
  exact noteOk_to h.2
theorem c11 (hp : PairAt H A0 n0 A1 n1 l ns) (hb : partsP l ns + 2 < big) (hq : ∀ A n c A' n' c' H' l' ns', Ext H H' → PairAt H' A n A' n' l' ns' → psOf l' ns' = doPair (psOf l ns) op sd nt → Q (.tuple #[.agg #[.slice A n c, .slice A' n' c'], .int .i64 (doCode (psOf l ns) op sd nt)]) H') :
    HCalls Try.prog 11 [.agg #[.slice A0 n0 c0, .slice A1 n1 c1], .agg #[.int .i64 op, .int .i64 sd, .int .i64 nt]] H Q := by
  refine f11.ok _ _ _ _ _ _ _ _ _ ?_
  unfold f11 jn
  dsimp only
  have bad : ∀ H', Ext H H' → ∀ k, k ≠ 0 → doCode (psOf l ns) op sd nt = k → Q (.tuple #[.agg #[.slice none 0 0, .slice none 0 0], .int .i64 k]) H' := fun H' hx k hk he => by
    have := hq none 0 0 none 0 0 H' [] [] hx PairAt.nil (by unfold doPair; rw [he, if_neg hk]; rfl)
    rwa [he] at this
  refine c28 hp ⟨_, rfl, cndI (fun hf => cndT rfl (bad H (Ext.refl H) 2 (by decide) ?_)) (fun hf => cndI (fun ho => cndT rfl (bad H (Ext.refl H) 2 (by decide) ?_)) (fun ho => cndI (fun ho2 => bad H (Ext.refl H) 2 (by decide) ?_) (fun ho2 => ?_)))⟩
  · rw [Bool.not_eq_true'] at hf; unfold doCode; rw [hf]; rfl
  · have := of_decide_eq_true ho
    unfold doCode; rw [decide_eq_false (by omega : ¬ 1 ≤ op)]; simp
  · have := of_decide_eq_true ho2
    unfold doCode; rw [decide_eq_false (by omega : ¬ op ≤ 9)]; simp
  rw [Bool.not_eq_false'] at hf
  have g1 := of_decide_eq_false ho
  have g2 := of_decide_eq_false ho2
  have hcode : doCode (psOf l ns) op sd nt = if (stOf (psOf l ns)).code op sd nt = 0 then (if ((stOf (psOf l ns)).eff op sd nt).ns.length ≤ 20 then 0 else 3) else (stOf (psOf l ns)).code op sd nt := by
    unfold doCode; rw [hf, decide_eq_true (by omega : 1 ≤ op), decide_eq_true (by omega : op ≤ 9)]; rfl
  obtain ⟨r0, r1, rfl⟩ := two_of (formed_two hf).1
  refine c29 hp (by omega) fun l' B0 d0 B1 d1 H8 hm o => ⟨_, _, _, _, _, _, rfl, ?_⟩
  obtain ⟨q0, q1, rfl⟩ := two_of (l := l') (by have := congrArg List.length hm; simpa using this)
  simp only [List.map_cons, List.map_nil, List.cons.injEq, and_true] at hm
  have hs : stOf (psOf [r0, r1] ns) = ⟨q0.side, q1.side, ns⟩ := by rw [hm.1, hm.2]; rfl
  rw [hs] at hcode
  have htot : ST.tot ⟨q0.side, q1.side, ns⟩ + 2 < big := by
    rw [hm.1, hm.2]
    unfold ST.tot RS.side
    unfold partsP at hb
    simp at hb ⊢
    omega
  refine o.act (ty := 58) (small_of (l := [r0, r1]) (ns := ns) (by omega)).2.1 fun g H12 bs h => ?_
  refine c30 (op := op) (sd := sd) (nt := nt) h (formed_notes hf) htot (fun hc H14 hx => ⟨_, rfl, cndT (by simpa using hc) (bad H14 hx _ hc (by rw [hcode, if_neg hc]))⟩) (fun hr hc H14 h14 => ⟨0, rfl, cndF rfl ?_⟩)
  have hc0 : ST.code ⟨q0.side, q1.side, ns⟩ op sd nt = 0 := by simp [ST.code, hr, hc]
  rw [if_pos hc0] at hcode
  obtain ⟨s0, s1, An, cn, e0, e1, ha⟩ := h14
  refine ⟨_, _, _, ha.cl1, cndI (fun hl => ?_) (fun hl => ?_)⟩
  · have := of_decide_eq_true hl
    exact bad H14 ha.ext 3 (by decide) (by rw [hcode, if_neg (by omega)])
  · have hl' := of_decide_eq_false hl
    rw [if_pos (by omega)] at hcode
    refine ⟨_, _, _, ha.cl0, _, _, _, ha.cl1, ?_⟩
    have := hq (some ⟨bs, 0, none⟩) 2 d0 An _ cn H14 [s0, s1] _ ha.ext ha.pair (by unfold doPair; rw [hcode, if_pos rfl, hs]; unfold psT psOf; rw [← e0, ← e1]; rfl)
    rwa [hcode] at this
theorem rng_go {Qb M : Prop} {ir : Bool} {len : Nat} (hb : ir = false → Qb) (hm : ir = true → M) (hS : (op = 6 ∨ op = 7 ∨ op = 9) → ir = (decide (0 ≤ sd) && decide (sd ≤ 1))) (hT : (op = 3 ∨ op = 4 ∨ op = 5) → ir = (decide (0 ≤ nt) && decide (nt < len)))
    (hO : op ≠ 3 → op ≠ 4 → op ≠ 5 → op ≠ 6 → op ≠ 7 → op ≠ 9 → ir = true) {j7 j9 : Bool} (h7 : j7 = true ↔ op = 6 ∨ op = 7 ∨ op = 9) (h9 : j9 = true ↔ op = 3 ∨ op = 4 ∨ op = 5) :
    cnd j7 (cnd (sd != 0) (cnd (sd != 1) (cnd true Qb M) (cnd j9 (cnd (decide (nt < 0)) (cnd true Qb M) (cnd (decide (nt ≥ ((len : Nat) : Int))) Qb M)) (cnd false Qb M))) (cnd j9 (cnd (decide (nt < 0)) (cnd true Qb M) (cnd (decide (nt ≥ ((len : Nat) : Int))) Qb M)) (cnd false Qb M)))
      (cnd j9 (cnd (decide (nt < 0)) (cnd true Qb M) (cnd (decide (nt ≥ ((len : Nat) : Int))) Qb M)) (cnd false Qb M)) := by
  have tail : (ir = true ∨ ¬ (op = 6 ∨ op = 7 ∨ op = 9)) → cnd j9 (cnd (decide (nt < 0)) (cnd true Qb M) (cnd (decide (nt ≥ ((len : Nat) : Int))) Qb M)) (cnd false Qb M) := fun h => by
    refine cndI (fun k9 => ?_) (fun k9 => ?_)
    · have ht := hT (h9.1 k9)
      refine cndI (fun k => hb ?_) (fun k => cndI (fun k2 => hb ?_) (fun k2 => hm ?_))
      · have := of_decide_eq_true k
        rw [ht, decide_eq_false (by omega : ¬ 0 ≤ nt)]; rfl
      · have := of_decide_eq_true k2
        rw [ht, decide_eq_false (by omega : ¬ nt < len)]; simp
      · have := of_decide_eq_false k
        have := of_decide_eq_false k2
        rw [ht, decide_eq_true (by omega : 0 ≤ nt), decide_eq_true (by omega : nt < len)]; rfl
    · refine hm ?_
      rcases h with h | h
      · exact h
      · have n9 : ¬ (op = 3 ∨ op = 4 ∨ op = 5) := fun e => by rw [h9.2 e] at k9; cases k9
        exact hO (fun e => n9 (.inl e)) (fun e => n9 (.inr (.inl e))) (fun e => n9 (.inr (.inr e))) (fun e => h (.inl e)) (fun e => h (.inr (.inl e))) (fun e => h (.inr (.inr e)))
  refine cndI (fun k7 => ?_) (fun k7 => tail (.inr fun e => by rw [h7.2 e] at k7; cases k7))
  have hs := hS (h7.1 k7)
  refine cndI (fun k => cndI (fun k2 => hb ?_) (fun k2 => tail (.inl ?_))) (fun k => tail (.inl ?_))
  · have a0 : sd ≠ 0 := by simpa using k
    have a1 : sd ≠ 1 := by simpa using k2
    rw [hs]
    by_cases h : 0 ≤ sd
    · rw [decide_eq_false (by omega : ¬ sd ≤ 1)]; simp
    · rw [decide_eq_false h]; rfl
  · have a1 : sd = 1 := by simpa using k2
    rw [hs, a1]; rfl
  · have a0 : sd = 0 := by simpa using k
    rw [hs, a0]; rfl
theorem c12 (hp : PairAt H A0 n0 A1 n1 l ns) (hb : partsP l ns + 2 < big) (hq : ∀ A n c A' n' c' H' l' ns', Ext H H' → PairAt H' A n A' n' l' ns' → psOf l' ns' = doPair (psOf l ns) op sd nt → Q (.tuple #[.agg #[.slice A n c, .slice A' n' c'], .int .i64 (doCode (psOf l ns) op sd nt)]) H') :
    HCalls Try.prog 12 [.agg #[.slice A0 n0 c0, .slice A1 n1 c1], .agg #[.int .i64 op, .int .i64 sd, .int .i64 nt]] H Q := by
  refine f12.ok _ _ _ _ _ _ _ _ _ ?_
  unfold f12 jn
  dsimp only
  have bad : ∀ H', Ext H H' → ∀ k, k ≠ 0 → doCode (psOf l ns) op sd nt = k → Q (.tuple #[.agg #[.slice none 0 0, .slice none 0 0], .int .i64 k]) H' := fun H' hx k hk he => by
    have := hq none 0 0 none 0 0 H' [] [] hx PairAt.nil (by unfold doPair; rw [he, if_neg hk]; rfl)
    rwa [he] at this
  obtain rfl := hp.notes.len
  refine c21 hp ⟨_, rfl, cndI (fun hf => cndT rfl (bad H (Ext.refl H) 2 (by decide) ?_)) (fun hf => cndI (fun ho => cndT rfl (bad H (Ext.refl H) 2 (by decide) ?_)) (fun ho => cndI (fun ho2 => bad H (Ext.refl H) 2 (by decide) ?_) (fun ho2 => ?_)))⟩
  · rw [Bool.not_eq_true'] at hf; unfold doCode; rw [hf]; rfl
  · have := of_decide_eq_true ho
    unfold doCode; rw [decide_eq_false (by omega : ¬ 1 ≤ op)]; simp
  · have := of_decide_eq_true ho2
    unfold doCode; rw [decide_eq_false (by omega : ¬ op ≤ 9)]; simp
  rw [Bool.not_eq_false'] at hf
  have g1 := of_decide_eq_false ho
  have g2 := of_decide_eq_false ho2
  have hcode : doCode (psOf l ns) op sd nt = if (stOf (psOf l ns)).code op sd nt = 0 then (if ((stOf (psOf l ns)).eff op sd nt).ns.length ≤ 20 then 0 else 3) else (stOf (psOf l ns)).code op sd nt := by
    unfold doCode; rw [hf, decide_eq_true (by omega : 1 ≤ op), decide_eq_true (by omega : op ≤ 9)]; rfl
  obtain ⟨r0, r1, rfl⟩ := two_of (formed_two hf).1
  have main : (stOf (psOf [r0, r1] ns)).inRange op sd nt = true → HCalls Try.prog 10 [.agg #[.slice A0 n0 c0, .slice A1 ns.length c1]] H fun v13 H14 => ∃ (A15 : Option Addr) (n15 c15 : Nat), ∃ (A16 : Option Addr) (n16 c16 : Nat), v13 = .agg #[.slice A15 n15 c15, .slice A16 n16 c16] ∧ newF H14 62 [.slice A15 n15 c15, .slice A16 n16 c16] fun g17 H18 => HCalls Try.prog 31 [.pointer (some ⟨g17, 0, none⟩), .agg #[.int .i64 op, .int .i64 sd, .int .i64 nt]] H18 fun v19 H20 => ∃ x21 : Bool, v19 = .bool x21 ∧ cnd (!x21) (Q (.tuple #[.agg #[.slice none 0 0, .slice none 0 0], .int .i64 5]) H20) (∃ (A22 : Option Addr) (n22 c22 : Nat), cl H20 g17 ((0 + 0) + 1) = some (.slice A22 n22 c22) ∧ cnd (decide ((((n22 : Nat) : Int) : Int) > 20)) (Q (.tuple #[.agg #[.slice none 0 0, .slice none 0 0], .int .i64 3]) H20) (∃ (A23 : Option Addr) (n23 c23 : Nat), cl H20 g17 (0 + 0) = some (.slice A23 n23 c23) ∧ ∃ (A24 : Option Addr) (n24 c24 : Nat), cl H20 g17 ((0 + 0) + 1) = some (.slice A24 n24 c24) ∧ Q (.tuple #[.agg #[.slice A23 n23 c23, .slice A24 n24 c24], .int .i64 0]) H20)) := fun hr => by
    refine c10 hp (by omega) fun l' B0 d0 B1 d1 H8 hm o => ⟨_, _, _, _, _, _, rfl, ?_⟩
    obtain ⟨q0, q1, rfl⟩ := two_of (l := l') (by have := congrArg List.length hm; simpa using this)
    simp only [List.map_cons, List.map_nil, List.cons.injEq, and_true] at hm
    have hs : stOf (psOf [r0, r1] ns) = ⟨q0.side, q1.side, ns⟩ := by rw [hm.1, hm.2]; rfl
    rw [hs] at hcode hr
    have htot : ST.tot ⟨q0.side, q1.side, ns⟩ + 2 < big := by
      rw [hm.1, hm.2]
      unfold ST.tot RS.side
      unfold partsP at hb
      simp at hb ⊢
      omega
    refine o.act (ty := 62) (small_of (l := [r0, r1]) (ns := ns) (by omega)).2.1 fun g H12 bs h => ?_
    refine c31 (op := op) (sd := sd) (nt := nt) h hr (formed_notes hf) htot (fun hc H14 hx => ⟨_, rfl, cndT rfl (bad H14 hx 5 (by decide) (by
      have e : ST.code ⟨q0.side, q1.side, ns⟩ op sd nt = 5 := by simp [ST.code, hr, hc]
      rw [hcode, e]; rfl))⟩) (fun hc H14 h14 => ⟨true, rfl, cndF rfl ?_⟩)
    have hc0 : ST.code ⟨q0.side, q1.side, ns⟩ op sd nt = 0 := by simp [ST.code, hr, hc]
    rw [if_pos hc0] at hcode
    obtain ⟨s0, s1, An, cn, e0, e1, ha⟩ := h14
    refine ⟨_, _, _, ha.cl1, cndI (fun hl => ?_) (fun hl => ?_)⟩
    · have := of_decide_eq_true hl
      exact bad H14 ha.ext 3 (by decide) (by rw [hcode, if_neg (by omega)])
    · have hl' := of_decide_eq_false hl
      rw [if_pos (by omega)] at hcode
      refine ⟨_, _, _, ha.cl0, _, _, _, ha.cl1, ?_⟩
      have := hq (some ⟨bs, 0, none⟩) 2 d0 An _ cn H14 [s0, s1] _ ha.ext ha.pair (by unfold doPair; rw [hcode, if_pos rfl, hs]; unfold psT psOf; rw [← e0, ← e1]; rfl)
      rwa [hcode] at this
  have out : (stOf (psOf [r0, r1] ns)).inRange op sd nt = false → Q (.tuple #[.agg #[.slice none 0 0, .slice none 0 0], .int .i64 21]) H := fun hr => bad H (Ext.refl H) 21 (by decide) (by
    have e : (stOf (psOf [r0, r1] ns)).code op sd nt = 21 := by simp [ST.code, hr]
    rw [hcode, e]; rfl)
  have elen : (stOf (psOf [r0, r1] ns)).ns.length = ns.length := rfl
  generalize stOf (psOf [r0, r1] ns) = st at main out elen
  have sideop : (op = 6 ∨ op = 7 ∨ op = 9) → st.inRange op sd nt = (decide (0 ≤ sd) && decide (sd ≤ 1)) := fun hop => by
    unfold ST.inRange
    rcases hop with rfl | rfl | rfl <;> rfl
  have noteop : (op = 3 ∨ op = 4 ∨ op = 5) → st.inRange op sd nt = (decide (0 ≤ nt) && decide (nt < ns.length)) := fun hop => by
    unfold ST.inRange
    rw [elen]
    rcases hop with rfl | rfl | rfl <;> rfl
  have other : op ≠ 3 → op ≠ 4 → op ≠ 5 → op ≠ 6 → op ≠ 7 → op ≠ 9 → st.inRange op sd nt = true := fun a b c d e f => by simp [ST.inRange, a, b, c, d, e, f]
  have go := fun {j7 j9 : Bool} h7 h9 => rng_go (j7 := j7) (j9 := j9) out main sideop noteop other h7 h9
  have yes : ∀ {b : Bool} {P : Prop}, b = true → P → (b = true ↔ P) := fun hb hp => ⟨fun _ => hp, fun _ => hb⟩
  refine cndI (fun k6 => ?_) (fun k6 => cndI (fun k7 => ?_) (fun k7 => ?_))
  · have e : op = 6 := by simpa using k6
    subst e
    exact cndF rfl (cndF rfl (go (by simp) (by simp)))
  · have e : op = 7 := by simpa using k7
    subst e
    exact cndF rfl (cndF rfl (go (by simp) (by simp)))
  · have n6 : op ≠ 6 := by simpa using k6
    have n7 : op ≠ 7 := by simpa using k7
    have e9 : (op == 9) = true ↔ op = 6 ∨ op = 7 ∨ op = 9 := by simp [n6, n7]
    refine cndI (fun k3 => go e9 ?_) (fun k3 => cndI (fun k4 => go e9 ?_) (fun k4 => go e9 ?_))
    · have : op = 3 := by simpa using k3
      simp [this]
    · have : op = 4 := by simpa using k4
      simp [this]
    · have n3 : op ≠ 3 := by simpa using k3
      have n4 : op ≠ 4 := by simpa using k4
      simp [n3, n4]
end
end
end Go.Proofs.Ytkkmoeimcedkgaa.Hw
