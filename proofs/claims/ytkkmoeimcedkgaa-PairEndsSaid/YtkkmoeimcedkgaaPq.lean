/- The pair: Calm, whole. -/
import Derived.Test.YtkkmoeimcedkgaaPp
set_option linter.unusedVariables false
set_option linter.unusedSimpArgs false
namespace Go.Proofs.Ytkkmoeimcedkgaa.Hw
open Go Go.Proofs
abbrev CT := PS × List Act3
def tryA (s : CT) (a : Act3) : Bool × CT := if doCode s.1 a.1 a.2.1 a.2.2 = 0 then (true, (doPair s.1 a.1 a.2.1 a.2.2, s.2 ++ [a])) else (false, s)
def four : List Act3 := [(2, 0, 0), (9, 0, 0), (8, 0, 0), (9, 1, 0)]
def tryL : Bool × CT → List Act3 → Bool × CT
  | s, [] => s
  | s, a :: r => if s.1 then tryL s r else tryL (tryA s.2 a) r
def calmL : Nat → CT → CT
  | 0, s => s
  | n + 1, s => if !settledP (side0 s.1) (side1 s.1) && decide (s.2.length < 60) then (let u := tryL (tryA s (3, 0, 0)) four; if u.1 then calmL n u.2 else u.2) else s
def calmS (p : PS) : CT := (tryA (tryA (p, []) (7, 0, 0)).2 (7, 1, 0)).2
def calmM (p : PS) : CT := calmL (62 - (calmS p).2.length) (calmS p)
theorem tryL_snoc {a : Act3} : ∀ {l : List Act3} {s : Bool × CT}, tryL s (l ++ [a]) = if (tryL s l).1 then tryL s l else tryA (tryL s l).2 a
  | [], s => by
    cases h : s.1 <;> simp [tryL, h]
  | b :: r, s => by
    simp only [List.cons_append, tryL]
    split <;> exact tryL_snoc (l := r)
/-- What stays so: two sides, and small. -/
def Good (N : Nat) (s : CT) : Prop := s.1.sides.length = 2 ∧ sizeP s.1 ≤ N + 2 * s.2.length
theorem doPair_two {p : PS} {a : Act3} (h : doCode p a.1 a.2.1 a.2.2 = 0) : (doPair p a.1 a.2.1 a.2.2).sides.length = 2 := by
  unfold doPair; rw [if_pos h]; rfl
theorem Good.try {N : Nat} {s : CT} {a : Act3} (h : Good N s) : Good N (tryA s a).2 := by
  unfold tryA
  split
  · rename_i h0
    refine ⟨doPair_two h0, ?_⟩
    have := step_size (p := s.1) (a := a)
    unfold stepP at this
    rw [if_pos h0] at this
    have h2 := h.2
    simp only [List.length_append, List.length_cons, List.length_nil]
    omega
  · exact h
theorem try_len {s : CT} {a : Act3} : (tryA s a).2.2.length = s.2.length + (if (tryA s a).1 then 1 else 0) := by
  unfold tryA
  split <;> simp
theorem tryL_len : ∀ {l : List Act3} {s : Bool × CT}, (tryL s l).2.2.length = s.2.2.length + (if s.1 then 0 else if (tryL s l).1 then 1 else 0)
  | [], s => by
    cases h : s.1 <;> simp [tryL, h]
  | a :: r, s => by
    simp only [tryL]
    split
    · rename_i h
      rw [tryL_len (l := r), h]; simp
    · rename_i h
      rw [tryL_len (l := r), try_len]
      cases hb : (tryA s.2 a).1 with
      | false => simp
      | true =>
        have : (tryL (tryA s.2 a) r).1 = true := by
          clear h
          revert hb
          generalize tryA s.2 a = t
          intro hb
          induction r with
          | nil => exact hb
          | cons b r ih => simp only [tryL, hb, if_true]; exact ih
        simp [this]
theorem Good.tryL {N : Nat} : ∀ {l : List Act3} {s : Bool × CT}, Good N s.2 → Good N (tryL s l).2
  | [], s, h => h
  | a :: r, s, h => by
    simp only [Hw.tryL]
    split
    · exact Good.tryL h
    · exact Good.tryL h.try
section
variable {H0 H H' : Hp} {Q : Value → Hp → Prop} {K : Hp → Prop} {g1 g8 : Nat}
theorem CS.fresh {p : PS} {out : List Act3} (h : CS H0 H g1 g8 p out) {g : Nat} {o : Obj} (hg : H g = none) : CS (upd g o H0) (upd g o H) g1 g8 p out := by
  obtain ⟨Hs, C, k, e, C', k', e', l, ns, B, d, h⟩ := h
  have hne : ∀ b, H b ≠ none → b ≠ g := fun b hb e => hb (e ▸ hg)
  have hsg : Hs g = none := h.x1.none hg
  have m1 : g1 ≠ g := hne g1 (by obtain ⟨ty, hb⟩ := h.b1; rw [hb]; simp)
  have m8 : g8 ≠ g := hne g8 (by obtain ⟨ty, hb⟩ := h.b8; rw [hb]; simp)
  have hup : ∀ {X Y : Hp}, Ext X Y → Ext (upd g o X) (upd g o Y) := fun hx b p hb => by
    by_cases hbg : b = g
    · subst hbg; rw [upd_at] at hb ⊢; exact hb
    · rw [upd_off hbg] at hb ⊢; exact hx b p hb
  refine ⟨upd g o Hs, C, k, e, C', k', e', l, ns, B, d, hup h.x0, hup h.x1, h.pr.ext (Ext.new hsg), h.eq, by rw [upd_off m1]; exact h.b1, by rw [upd_off m8]; exact h.b8, ?_, by rw [upd_off m1]; exact h.n1, by rw [upd_off m8]; exact h.n8, h.ne, fun b hb => ?_⟩
  · obtain ⟨r1, r2, r3⟩ := h.row
    refine ⟨r1, r2, r3.imp id ?_⟩
    rintro ⟨b, cs, ty, rfl, hb, hl, ht, hz⟩
    have : b ≠ g := hne b (by rw [hb]; simp)
    exact ⟨b, cs, ty, rfl, by rw [upd_off this]; exact hb, hl, ht, by rw [upd_off this]; exact hz⟩
  · have : b ≠ g := hne b (h.row.lt hb).1
    rw [upd_off this]
    exact h.nr b hb
theorem CS.base {H00 : Hp} {p : PS} {out : List Act3} (h : CS H0 H g1 g8 p out) (hx : Ext H00 H0) : CS H00 H g1 g8 p out := by
  obtain ⟨Hs, C, k, e, C', k', e', l, ns, B, d, h⟩ := h
  exact ⟨Hs, C, k, e, C', k', e', l, ns, B, d, { h with x0 := hx.trans h.x0, row := h.row.base hx }⟩
theorem CS.ext {p : PS} {out : List Act3} (h : CS H0 H g1 g8 p out) : Ext H0 H := by
  obtain ⟨Hs, C, k, e, C', k', e', l, ns, B, d, h⟩ := h
  exact h.x0.trans h.x1
theorem d37 {s : CT} {a : Act3} {N : Nat} (h : CS H0 H g1 g8 s.1 s.2) (hg : Good N s) (hN : N < 1000000) (hol : s.2.length < 1000)
    (hq : ∀ H', CS H0 H' g1 g8 (tryA s a).2.1 (tryA s a).2.2 → Q (.bool (tryA s a).1) H') : HCalls Try.prog 37 [.agg #[.int .i64 a.1, .int .i64 a.2.1, .int .i64 a.2.2], .pointer (some ⟨g1, 0, none⟩), .pointer (some ⟨g8, 0, none⟩)] H Q := by
  have h2 := hg.2
  refine c37 h (by unfold big; omega) (by omega) (fun hc H' h' => ?_) (fun hc H' h' => ?_)
  · have e : tryA s a = (false, s) := by unfold tryA; rw [if_neg hc]
    rw [e] at hq
    exact hq H' h'
  · have e : tryA s a = (true, (doPair s.1 a.1 a.2.1 a.2.2, s.2 ++ [a])) := by unfold tryA; rw [if_pos hc]
    rw [e] at hq
    exact hq H' h'
theorem c20 {A0 A1 : Option Addr} {n0 c0 n1 c1 : Nat} {l : List RS} {ns : List (Int × Int)} (hp : PairAt H A0 n0 A1 n1 l ns) (hsz : sizeP (psOf l ns) < 1000000)
    (hbad : formed (psOf l ns) = false → ∀ H', Ext H H' → Q (.tuple #[.slice none 0 0, .int .i64 2]) H')
    (hq : formed (psOf l ns) = true → ∀ B d H', Ext H H' → cellsAt H' B ((calmM (psOf l ns)).2.flatMap actC) → Q (.tuple #[.slice B (calmM (psOf l ns)).2.length d, .int .i64 0]) H') : HCalls Try.prog 20 [.agg #[.slice A0 n0 c0, .slice A1 n1 c1]] H Q := by
  refine f20.ok _ _ _ _ _ _ ?_
  unfold f20
  intro g1 hg1
  have hx1 : Ext H (upd g1 (.cells [Value.slice A0 n0 c0, .slice A1 n1 c1].toArray 25 (0, 0)) H) := Ext.new hg1
  refine ⟨A0, n0, c0, by rw [cl_cells upd_at]; rfl, A1, n1, c1, by rw [cl_cells upd_at]; rfl, c28 (hp.ext hx1) ⟨_, rfl, cndI (fun hf => hbad (by simpa using hf) _ hx1) (fun hf => ?_)⟩⟩
  replace hq := hq (by simpa using hf)
  have hf' : formed (psOf l ns) = true := by simpa using hf
  have h2 := (formed_two hf').1
  intro g8 hg8
  have hne : g1 ≠ g8 := fun e => by rw [← e, upd_at] at hg8; cases hg8
  have hH8 : H g8 = none := hx1.none hg8
  have cs0 : CS H (upd g8 (.cells [Value.slice none 0 0].toArray 40 (0, 0)) (upd g1 (.cells [Value.slice A0 n0 c0, .slice A1 n1 c1].toArray 25 (0, 0)) H)) g1 g8 (psOf l ns) [] :=
    ⟨H, A0, n0, c0, A1, n1, c1, l, ns, none, 0, Ext.refl H, hx1.trans (Ext.new hg8), hp, rfl, ⟨25, by rw [upd_off hne, upd_at]⟩, ⟨40, by rw [upd_at]; rfl⟩, Row.nil, hg1, hH8, hne, fun b ⟨o, q, hb⟩ => (by cases hb)⟩
  have G0 : Good (sizeP (psOf l ns)) (psOf l ns, []) := ⟨by unfold psOf; simpa using h2, by simp⟩
  refine ⟨fnOk 37 rfl, d37 (s := (psOf l ns, [])) (a := (7, 0, 0)) cs0 G0 hsz (by simp) fun H11 cs1 => ⟨_, rfl, fnOk 37 rfl, d37 (a := (7, 1, 0)) cs1 G0.try hsz ?_ fun H14 cs2 => ⟨_, rfl, ?_⟩⟩⟩
  · rw [try_len]; simp; split <;> omega
  have hlen2 : (calmS (psOf l ns)).2.length ≤ 2 := by
    unfold calmS
    rw [try_len, try_len]
    simp
    split <;> split <;> omega
  have G2 : Good (sizeP (psOf l ns)) (calmS (psOf l ns)) := G0.try.try
  -- the loop
  have hfin : ∀ (t : CT) H', t = calmM (psOf l ns) → CS H H' g1 g8 t.1 t.2 → ∃ (A47 : Option Addr) (n47 c47 : Nat), cl H' g8 0 = some (.slice A47 n47 c47) ∧ Q (.tuple #[.slice A47 n47 c47, .int .i64 0]) H' := by
    rintro t H' rfl h
    have hx := h.ext
    obtain ⟨Hs, C, k, e, C', k', e', l2, ns2, B, d, h⟩ := h
    obtain ⟨ty, hb⟩ := h.b8
    exact ⟨B, _, d, by rw [cl_cells hb]; rfl, hq B d H' hx h.row.cells⟩
  refine ⟨fun m _ H' => ∃ t : CT, CS H H' g1 g8 t.1 t.2 ∧ Good (sizeP (psOf l ns)) t ∧ t.2.length ≤ 60 ∧ m = 62 - t.2.length ∧ calmL m t = calmM (psOf l ns), ⟨62 - (calmS (psOf l ns)).2.length, calmS (psOf l ns), cs2, G2, by omega, rfl, rfl⟩, ?_⟩
  rintro m _ H17 ⟨t, cs, G, hl60, rfl, hcalm⟩
  unfold jn
  dsimp only
  obtain ⟨m, hm⟩ : ∃ m, 62 - t.2.length = m + 1 := ⟨61 - t.2.length, by omega⟩
  rw [hm] at hcalm ⊢
  unfold calmL at hcalm
  have cs' := cs
  obtain ⟨Hs, C, k, e, C', k', e', l2, ns2, B, d, h⟩ := cs'
  obtain ⟨ty1, hb1⟩ := h.b1
  obtain ⟨ty8, hb8⟩ := h.b8
  have hl2 : l2.length = 2 := by
    have := G.1
    rw [← h.eq] at this
    simpa [psOf] using this
  obtain ⟨r0, r1, rfl⟩ := two_of hl2
  have hset : settledP r0.side r1.side = settledP (side0 t.1) (side1 t.1) := by rw [← h.eq]; rfl
  refine ⟨C, k, e, by rw [cl_cells hb1]; rfl, C', k', e', by rw [cl_cells hb1]; rfl, c36 (by
    have h3 := h.pr.ext h.x1
    have := h3.sides.len
    exact h3) ⟨_, rfl, ?_⟩⟩
  rw [hset]
  refine cndI (fun hs => ⟨B, _, d, by rw [cl_cells hb8]; rfl, cndI (fun hl => ?_) (fun hl => ?_)⟩) (fun hs => cndF rfl ?_)
  rotate_left
  · have hl' : ¬ t.2.length < 60 := by have := of_decide_eq_false hl; omega
    rw [decide_eq_false hl', Bool.and_false, if_neg (by decide)] at hcalm
    exact hfin t _ hcalm cs
  · rw [hs, Bool.false_and, if_neg (by decide)] at hcalm
    exact hfin t _ hcalm cs
  have hl' : t.2.length < 60 := by have := of_decide_eq_true hl; omega
  rw [hs, decide_eq_true hl', Bool.and_self, if_pos rfl] at hcalm
  refine ⟨fnOk 37 rfl, d37 (a := (3, 0, 0)) cs G hsz (by omega) fun H29 csg => ⟨_, rfl, fun g31 hg31 => ?_⟩⟩
  have Gg := G.try (a := (3, 0, 0))
  have glen := try_len (s := t) (a := (3, 0, 0))
  generalize tryA t (3, 0, 0) = u0 at csg Gg glen hcalm
  have cs31 := csg.fresh (o := .cells [Value.int .i64 2, .int .i64 0, .int .i64 0, .int .i64 9, .int .i64 0, .int .i64 0, .int .i64 8, .int .i64 0, .int .i64 0, .int .i64 9, .int .i64 1, .int .i64 0].toArray 28 (0, 0)) hg31
  have hH31 : H g31 = none := csg.ext.none hg31
  refine loop_to 4 (fun i s H' => s = (((tryL u0 (four.take i)).1, ((i : Int), ())), ()) ∧ CS (upd g31 (.cells [Value.int .i64 2, .int .i64 0, .int .i64 0, .int .i64 9, .int .i64 0, .int .i64 0, .int .i64 8, .int .i64 0, .int .i64 0, .int .i64 9, .int .i64 1, .int .i64 0].toArray 28 (0, 0)) H) H' g1 g8 (tryL u0 (four.take i)).2.1 (tryL u0 (four.take i)).2.2) ⟨rfl, cs31⟩ ?_
  rintro i s H34 next hi ⟨rfl, csi⟩ hnext
  dsimp only
  by_cases h4 : i < 4
  · obtain ⟨a, ha⟩ : ∃ a, four[i]? = some a := ⟨_, List.getElem?_eq_getElem h4⟩
    have hst : tryL u0 (four.take (i + 1)) = if (tryL u0 (four.take i)).1 then tryL u0 (four.take i) else tryA (tryL u0 (four.take i)).2 a := by
      rw [List.take_add_one, ha]
      exact tryL_snoc
    have hb31 : H34 g31 = some (.cells (four.flatMap actC).toArray 28 (0, 0)) := csi.ext g31 _ (by rw [upd_at]; rfl)
    have hlen : ∀ x ∈ four, (actC x).length = 3 := fun x _ => rfl
    have rd : ∀ j, j < 3 → cl H34 g31 (i * 3 + j) = (actC a)[j]? := fun j hj => by rw [cl_cells hb31]; exact flat_get hlen ha hj
    have Gi : Good (sizeP (psOf l ns)) (tryL u0 (four.take i)).2 := Good.tryL Gg
    have hli := tryL_len (l := four.take i) (s := u0)
    refine cndT (by simp; omega) ⟨by omega, by omega, a.1, by show cl H34 g31 (0 + i * 3) = _; rw [Nat.zero_add]; exact rd 0 (by omega), a.2.1, by show cl H34 g31 (0 + i * 3 + 1) = _; rw [Nat.zero_add]; exact rd 1 (by omega), a.2.2, by show cl H34 g31 (0 + i * 3 + 1 + 1) = _; rw [Nat.zero_add]; exact rd 2 (by omega), cndI (fun hk => ⟨rfl, hnext _ _ h4 ⟨?_, ?_⟩⟩) (fun hk => ⟨fnOk 37 rfl, d37 (a := a) csi Gi hsz ?_ fun H40 cs40 => ⟨_, rfl, rfl, hnext _ _ h4 ⟨?_, ?_⟩⟩⟩)⟩
    · rw [hst, if_pos hk, hk, wrap_id (by omega) (by omega)]; rfl
    · rw [hst, if_pos hk]; exact csi
    · have b1 : ∀ x : Bool, (if x = true then 1 else 0) ≤ 1 := by intro x; cases x <;> simp
      have b2 : ∀ x y : Bool, (if x = true then 0 else if y = true then 1 else 0) ≤ 1 := by intro x y; cases x <;> cases y <;> simp
      have := b1 u0.1
      have := b2 u0.1 (tryL u0 (four.take i)).1
      rw [hli, glen]; omega
    · rw [hst, if_neg (by rw [hk]; decide), wrap_id (by omega) (by omega)]; rfl
    · rw [hst, if_neg (by rw [hk]; decide)]; exact cs40
  · obtain rfl : i = 4 := by omega
    have e4 : four.take 4 = four := rfl
    rw [e4] at csi ⊢
    have csb := csi.base (Ext.new hH31)
    have hlu := tryL_len (l := four) (s := u0)
    refine cndF (by simp) (cndI (fun hk => ?_) (fun hk => ⟨rfl, m, by omega, (tryL u0 four).2, csb, Good.tryL Gg, ?_, ?_, ?_⟩))
    · rw [Bool.not_eq_true'] at hk
      dsimp only at hcalm
      rw [if_neg (by rw [hk]; decide)] at hcalm
      exact hfin _ _ hcalm csb
    all_goals
      rw [Bool.not_eq_false'] at hk
      dsimp only at hcalm
      rw [if_pos hk] at hcalm
    · rw [hlu, glen, hk]
      cases u0.1 <;> simp <;> omega
    · have : (tryL u0 four).2.2.length = t.2.length + 1 := by
        rw [hlu, glen, hk]
        cases u0.1 <;> simp
      omega
    · exact hcalm
end
end Go.Proofs.Ytkkmoeimcedkgaa.Hw
