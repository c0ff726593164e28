/- The pair: New, the good acts, Run of either program. -/
import Derived.Test.YtkkmoeimcedkgaaPn
set_option linter.unusedVariables false
set_option linter.unusedSimpArgs false
namespace Go.Proofs.Ytkkmoeimcedkgaa.Hw
open Go Go.Proofs
abbrev Act3 := Int × Int × Int
def actC (a : Act3) : List Value := [.int .i64 a.1, .int .i64 a.2.1, .int .i64 a.2.2]
structure ActsAt (H : Hp) (A : Option Addr) (n : Nat) (l : List Act3) : Prop where
  len : n = l.length
  cells : cellsAt H A (l.flatMap actC)
theorem ActsAt.ext {H H' : Hp} {A : Option Addr} {n : Nat} {l : List Act3} (h : ActsAt H A n l) (hx : Ext H H') : ActsAt H' A n l := ⟨h.len, cellsAt_ext hx h.cells⟩
theorem rd_act {H : Hp} {A : Option Addr} {n : Nat} {l : List Act3} {i : Nat} {a : Act3} (h : ActsAt H A n l) (hi : l[i]? = some a) {K : Nat → Nat → Prop}
    (hk : ∀ b o, A = some ⟨b, o, none⟩ → cl H b (o + i * 3) = some (.int .i64 a.1) → cl H b (o + i * 3 + 1) = some (.int .i64 a.2.1) → cl H b (o + i * 3 + 1 + 1) = some (.int .i64 a.2.2) → K b o) : onPtr A K := by
  have hlen : ∀ x ∈ l, (actC x).length = 3 := fun x _ => rfl
  have hne : l ≠ [] := fun e => by subst e; simp at hi
  refine at_cells h.cells (flat_ne hlen (by omega) hne) fun b o hA hc => hk b o hA ?_ ?_ ?_
  · have := hc (i * 3 + 0) _ (flat_get hlen hi (by omega)); exact this
  · have := hc (i * 3 + 1) _ (flat_get hlen hi (by omega)); exact this
  · have := hc (i * 3 + 2) _ (flat_get hlen hi (by omega)); exact this

/-! ### runs -/
def newP : PS := ⟨[⟨0, true, []⟩, ⟨0, true, []⟩], []⟩
def stepP (p : PS) (a : Act3) : PS := if doCode p a.1 a.2.1 a.2.2 = 0 then doPair p a.1 a.2.1 a.2.2 else p
def runP (p : PS) : List Act3 → PS
  | [] => p
  | a :: r => runP (stepP p a) r
def runC (p : PS) : List Act3 → List Int
  | [] => []
  | a :: r => doCode p a.1 a.2.1 a.2.2 :: runC (stepP p a) r
theorem runP_snoc {a : Act3} : ∀ {l : List Act3} {p : PS}, runP p (l ++ [a]) = stepP (runP p l) a
  | [], p => rfl
  | b :: r, p => runP_snoc (l := r)
theorem runC_snoc {a : Act3} : ∀ {l : List Act3} {p : PS}, runC p (l ++ [a]) = runC p l ++ [doCode (runP p l) a.1 a.2.1 a.2.2]
  | [], p => rfl
  | b :: r, p => by
    simp only [List.cons_append, runC, runP]
    rw [runC_snoc (l := r)]
theorem runC_length : ∀ {l : List Act3} {p : PS}, (runC p l).length = l.length
  | [], p => rfl
  | b :: r, p => by simp [runC, runC_length (l := r)]
/-- How large a pair is. -/
def sizeP (p : PS) : Nat := p.sides.length + p.notes.length + (p.sides.map fun s => s.log.length).sum
theorem sizeP_ps {l : List RS} {ns : List (Int × Int)} : sizeP (psOf l ns) = partsP l ns := by
  unfold sizeP psOf partsP
  simp only [List.length_map, List.map_map]
  rfl
theorem tot_ite {c : Prop} [Decidable c] {a b : ST} {n : Nat} (ha : c → a.tot ≤ n) (hb : ¬ c → b.tot ≤ n) : (if c then a else b).tot ≤ n := by
  split
  · exact ha ‹_›
  · exact hb ‹_›
theorem tot_part {s : ST} {k : Int} : (s.part k).tot ≤ s.tot + 2 := by
  unfold ST.part
  have h : ∀ (c : Prop) [Decidable c] (d : Prop) [Decidable d] (p : Int), (let t := if c then s.write1 p else s; if d then t.send 0 7 else t).tot ≤ s.tot + 2 := by
    intro c _ d _ p
    dsimp only
    refine tot_ite (fun _ => ?_) (fun _ => ?_)
    · rw [tot_send]
      have := tot_ite (c := c) (a := s.write1 p) (b := s) (n := s.tot + 1) (fun _ => by rw [tot_write1]; exact Nat.le_refl _) (fun _ => by omega)
      omega
    · have := tot_ite (c := c) (a := s.write1 p) (b := s) (n := s.tot + 1) (fun _ => by rw [tot_write1]; exact Nat.le_refl _) (fun _ => by omega)
      omega
  refine tot_ite (fun _ => tot_ite (fun _ => by rw [tot_send, tot_write1]; omega) (fun _ => tot_ite (fun _ => by rw [tot_send]; omega) (fun _ => by rw [tot_send]; omega))) (fun _ => tot_ite (fun _ => ?_) (fun _ => tot_ite (fun _ => ?_) (fun _ => by omega)))
  · dsimp only
    refine tot_ite (fun _ => ?_) (fun _ => ?_)
    · rw [tot_send]
      have := tot_ite (c := s.in1 [2] = true) (a := s.write1 3) (b := s) (n := s.tot + 1) (fun _ => by rw [tot_write1]; exact Nat.le_refl _) (fun _ => by omega)
      omega
    · have := tot_ite (c := s.in1 [2] = true) (a := s.write1 3) (b := s) (n := s.tot + 1) (fun _ => by rw [tot_write1]; exact Nat.le_refl _) (fun _ => by omega)
      omega
  · dsimp only
    refine tot_ite (fun _ => ?_) (fun _ => ?_)
    · rw [tot_send]
      have := tot_ite (c := s.in1 [2, 1] = true) (a := s.write1 4) (b := s) (n := s.tot + 1) (fun _ => by rw [tot_write1]; exact Nat.le_refl _) (fun _ => by omega)
      omega
    · have := tot_ite (c := s.in1 [2, 1] = true) (a := s.write1 4) (b := s) (n := s.tot + 1) (fun _ => by rw [tot_write1]; exact Nat.le_refl _) (fun _ => by omega)
      omega
theorem tot_refuse {s : ST} : s.refuse.tot ≤ s.tot + 2 := by
  unfold ST.refuse
  rw [tot_send]
  have := tot_ite (c := s.in0 [1, 0] = true) (a := s.write0 4) (b := s) (n := s.tot + 1) (fun _ => by rw [tot_write0]; exact Nat.le_refl _) (fun _ => by omega)
  omega
theorem tot_lead {s : ST} {k : Int} : (s.lead k).tot ≤ s.tot + 2 := by
  unfold ST.lead
  have hr := tot_refuse (s := s)
  refine tot_ite (fun _ => tot_ite (fun _ => by rw [tot_send, tot_write0]; omega) (fun _ => tot_ite (fun _ => by rw [tot_send]; omega) (fun _ => hr))) (fun _ => tot_ite (fun _ => tot_ite (fun _ => by rw [tot_send, tot_write0]; omega) (fun _ => by omega)) (fun _ => tot_ite (fun _ => tot_ite (fun _ => by rw [tot_send]; omega) (fun _ => tot_ite (fun _ => by omega) (fun _ => hr))) (fun _ => by omega)))
theorem tot_eff {s : ST} {op sd nt : Int} : (s.eff op sd nt).tot ≤ s.tot + 2 := by
  unfold ST.eff
  refine tot_ite (fun _ => ?_) (fun _ => tot_ite (fun _ => ?_) (fun _ => tot_ite (fun _ => ?_) (fun _ => tot_ite (fun _ => ?_) (fun _ => tot_ite (fun _ => ?_) (fun _ => tot_ite (fun _ => ?_) (fun _ => tot_ite (fun _ => ?_) (fun _ => tot_ite (fun _ => ?_) (fun _ => tot_ite (fun _ => ?_) (fun _ => by omega)))))))))
  · simp [ST.tot, ST.ph0, ST.ph1]
  · rw [tot_send]; simp [ST.tot, ST.ph0]
  · unfold ST.give
    have h1 := tot_take (s := s) (i := nt.toNat)
    have h2 := fun k => tot_lead (s := s.take nt.toNat) (k := k)
    have h3 := fun k => tot_part (s := s.take nt.toNat) (k := k)
    exact tot_ite (fun _ => Nat.le_trans (h2 _) (by omega)) (fun _ => Nat.le_trans (h3 _) (by omega))
  · have h1 := tot_take (s := s) (i := nt.toNat)
    omega
  · rw [tot_send]; omega
  · unfold ST.stop
    exact tot_ite (fun _ => by simp [ST.tot, ST.ph0, ST.up0]) (fun _ => by simp [ST.tot, ST.ph1, ST.up1])
  · unfold ST.start
    exact tot_ite (fun _ => tot_ite (fun _ => by simp [ST.tot, ST.ph0, ST.up0]) (fun _ => by simp [ST.tot, ST.up0])) (fun _ => tot_ite (fun _ => by simp [ST.tot, ST.ph1, ST.up1]) (fun _ => by simp [ST.tot, ST.up1]))
  · rw [tot_send]; omega
  · unfold ST.drop
    exact tot_ite (fun _ => by rw [tot_send, tot_write0]; omega) (fun _ => by rw [tot_write1]; omega)
theorem sizeP_T {s : ST} : sizeP (psT s) = s.tot + 2 := by
  unfold sizeP psT ST.tot; simp; omega
theorem step_size {p : PS} {a : Act3} : sizeP (stepP p a) ≤ sizeP p + 2 := by
  unfold stepP
  split
  · rename_i h0
    unfold doPair
    rw [if_pos h0, sizeP_T]
    have h1 := tot_eff (s := stOf p) (op := a.1) (sd := a.2.1) (nt := a.2.2)
    have hf : formed p = true := by
      cases hf : formed p with
      | true => rfl
      | false => unfold doCode at h0; rw [hf] at h0; simp at h0
    unfold formed at hf
    simp only [Bool.and_eq_true, decide_eq_true_eq] at hf
    match hs : p.sides, hf.1.1.1 with
    | [x, y], _ =>
      have e : sizeP p = (stOf p).tot + 2 := by
        unfold sizeP stOf ST.tot side0 side1
        rw [hs]; simp; omega
      omega
  · omega
theorem run_size {p : PS} : ∀ {l : List Act3}, sizeP (runP p l) ≤ sizeP p + 2 * l.length := by
  intro l
  induction l generalizing p with
  | nil => simp [runP]
  | cons a r ih =>
    have h1 := ih (p := stepP p a)
    have h2 := step_size (p := p) (a := a)
    simp only [runP, List.length_cons]
    omega

section
variable {H0 H H' : Hp} {Q : Value → Hp → Prop} {K : Hp → Prop}
theorem newAt {g ty : Nat} (hg : H g = none) : PairAt (upd g (.cells [Value.int .i64 0, .bool true, .slice none 0 0, .int .i64 0, .bool true, .slice none 0 0].toArray ty (0, 0)) H) (some ⟨g, 0, none⟩) 2 none 0 [⟨0, true, [], none, 0, 0⟩, ⟨0, true, [], none, 0, 0⟩] [] := by
  refine ⟨⟨rfl, .inr ⟨g, 0, rfl, fun j v hj => by rw [cl_cells upd_at, Nat.zero_add]; exact hj⟩, fun r hr => ?_⟩, ⟨rfl, .inl rfl⟩, by unfold huge; simp⟩
  have : r = ⟨0, true, [], none, 0, 0⟩ := by simpa using hr
  subst this
  exact ⟨rfl, .inl rfl, by unfold huge; simp⟩
theorem c24 (hq : ∀ g H' l', Ext H H' → PairAt H' (some ⟨g, 0, none⟩) 2 none 0 l' [] → psOf l' [] = newP → Q (.agg #[.slice (some ⟨g, 0, none⟩) 2 2, .slice none 0 0]) H') : HCalls Try.prog 24 [] H Q := by
  refine f24.ok ?_
  unfold f24
  exact fun g hg => hq g _ _ (Ext.new hg) (newAt hg) rfl
theorem c27 (hq : ∀ g H' l', Ext H H' → PairAt H' (some ⟨g, 0, none⟩) 2 none 0 l' [] → psOf l' [] = newP → Q (.agg #[.slice (some ⟨g, 0, none⟩) 2 2, .slice none 0 0]) H') : HCalls Try.prog 27 [] H Q := by
  refine f27.ok ?_
  unfold f27
  exact fun g hg => hq g _ _ (Ext.new hg) (newAt hg) rfl
def goodL : List Act3 := [(1, 0, 0), (2, 0, 0), (3, 0, 0), (3, 0, 0), (3, 0, 0)]
theorem c26 (hq : ∀ g H', Ext H H' → H' g = some (.cells (goodL.flatMap actC).toArray 28 (0, 0)) → H g = none → Q (.slice (some ⟨g, 0, none⟩) 5 5) H') : HCalls Try.prog 26 [] H Q := by
  refine f26.ok ?_
  unfold f26
  exact fun g hg => hq g _ (Ext.new hg) (by rw [upd_at]; rfl) hg
/-- A call that is told of a part of the heap. -/
theorem HCalls.part {f : FuncId} {args : List Value} {Hs : Hp} (h : HCalls Try.prog f args Hs Q) (hx : Ext Hs H') : HCalls Try.prog f args H' (fun v H13 => ∃ H1, Q v H1 ∧ Ext H1 H13 ∧ ∀ b, Hs b = none → H' b ≠ none → H1 b = none ∧ H13 b = H' b) := by
  obtain ⟨F, hF1, hF2⟩ : ∃ F : Hp, (∀ b, Hs b = none → F b = H' b) ∧ (∀ b, Hs b ≠ none → F b = none) := ⟨fun b => match Hs b with | some _ => none | none => H' b, fun b hb => by simp only [hb], fun b hb => by
    cases hc : Hs b with
    | some o => simp only [hc]
    | none => exact absurd hc hb⟩
  have e : H' = fun b => match Hs b with | some o => some o | none => F b := by
    funext b
    cases hb : Hs b with
    | some o => exact hx b o hb
    | none => simp only [hF1 b hb]
  have hf : HCalls Try.prog f args H' (fun v H'' => ∃ H1, Q v H1 ∧ (∀ b, H1 b ≠ none → F b = none) ∧ H'' = fun b => match H1 b with | some o => some o | none => F b) := by
    rw [e]
    exact HCalls.frame (F := F) h hF2
  refine hf.mono fun v H13 ⟨H1, hq, hd, he⟩ => ⟨H1, hq, fun b o hb => by rw [he]; simp only [hb], fun b hb hb2 => ?_⟩
  have hn : H1 b = none := by
    cases hc : H1 b with
    | none => rfl
    | some o =>
      have := hd b (by rw [hc]; simp)
      rw [hF1 b hb] at this
      exact absurd this hb2
  refine ⟨hn, ?_⟩
  rw [he]
  simp only [hn, hF1 b hb]
/-- The loop of Run. -/
theorem runLoop {f : Nat} (hf : f = 11 ∨ f = 12) {A : Option Addr} {n c : Nat} {l : List Act3} (hA : ActsAt H A n l) (hl : l.length < 1000000) {p : PS} (hsz : sizeP p < 1000000) {B0 B1 : Option Addr} {m0 d0 m1 d1 : Nat} {lr : List RS} {ns : List (Int × Int)} (hp : PairAt H B0 m0 B1 m1 lr ns) (he : psOf lr ns = p)
    (hq : ∀ A n c A' n' c' B d H' l' ns', Ext H H' → PairAt H' A n A' n' l' ns' → psOf l' ns' = runP p l → Row H H' B l.length d 1 (ints (runC p l)) → Q (.tuple #[.agg #[.slice A n c, .slice A' n' c'], .slice B l.length d]) H') :
    LoopF (σ := ((Option Addr × Nat × Nat) × (Int × Unit)) × (((Option Addr × Nat × Nat) × ((Option Addr × Nat × Nat) × Unit)) × Unit)) (((none, 0, 0), (0, ())), (((B0, m0, d0), ((B1, m1, d1), ())), ())) H fun s5 H6 next7 => cnd (decide ((s5.1.2.1 : Int) < ((n : Nat) : Int))) (0 ≤ (s5.1.2.1 : Int) ∧ (s5.1.2.1 : Int) < ((n : Nat) : Int) ∧ onPtr A fun b8 o8 => ∃ x9 : Int, cl H6 b8 (o8 + (s5.1.2.1 : Int).toNat * 3) = some (.int .i64 x9) ∧ ∃ x10 : Int, cl H6 b8 ((o8 + (s5.1.2.1 : Int).toNat * 3) + 1) = some (.int .i64 x10) ∧ ∃ x11 : Int, cl H6 b8 (((o8 + (s5.1.2.1 : Int).toNat * 3) + 1) + 1) = some (.int .i64 x11) ∧ HCalls Try.prog f [.agg #[.slice s5.2.1.1.1 s5.2.1.1.2.1 s5.2.1.1.2.2, .slice s5.2.1.2.1.1 s5.2.1.2.1.2.1 s5.2.1.2.1.2.2], .agg #[.int .i64 x9, .int .i64 x10, .int .i64 x11]] H6 fun v12 H13 => ∃ (A14 : Option Addr) (n14 c14 : Nat), ∃ (A15 : Option Addr) (n15 c15 : Nat), ∃ x16 : Int, v12 = .tuple #[.agg #[.slice A14 n14 c14, .slice A15 n15 c15], .int .i64 x16] ∧ jn (fun (jA17 : Option Addr) (jn18 : Nat) (jc19 : Nat) (jA20 : Option Addr) (jn21 : Nat) (jc22 : Nat) => newF H13 32 [.int .i64 x16] fun g24 H25 => appendF H25 32 1 8 s5.1.1.1 s5.1.1.2.1 s5.1.1.2.2 (some ⟨g24, 0, none⟩) 1 fun A26 n26 c26 H27 => KeepX [some (.loc 2 0), some (.loc 4 0), some (.v (.slice A n c)), some (.v (.int .i64 ((n : Nat) : Int)))] [some (true, [.slice none 0 0, .slice none 0 0])] ∧ next7 (((A26, n26, c26), (IntKind.i64.wrap (s5.1.2.1 + 1), ())), (((jA17, jn18, jc19), ((jA20, jn21, jc22), ())), ())) H27) fun J23 => cnd ((x16 : Int) == 0) (J23 A14 n14 c14 A15 n15 c15) (J23 s5.2.1.1.1 s5.2.1.1.2.1 s5.2.1.1.2.2 s5.2.1.2.1.1 s5.2.1.2.1.2.1 s5.2.1.2.1.2.2)) (Q (.tuple #[.agg #[.slice s5.2.1.1.1 s5.2.1.1.2.1 s5.2.1.1.2.2, .slice s5.2.1.2.1.1 s5.2.1.2.1.2.1 s5.2.1.2.1.2.2], .slice s5.1.1.1 s5.1.1.2.1 s5.1.1.2.2]) H6) := by
  obtain rfl := hA.len
  refine loop_to l.length (fun i s H' => ∃ B d C0 k0 e0 C1 k1 e1 l' ns' Hs, s = (((B, i, d), ((i : Int), ())), (((C0, k0, e0), ((C1, k1, e1), ())), ())) ∧ i ≤ l.length ∧ Ext H Hs ∧ Ext Hs H' ∧ PairAt Hs C0 k0 C1 k1 l' ns' ∧ psOf l' ns' = runP p (l.take i) ∧ Row H H' B i d 1 (ints (runC p (l.take i))) ∧ ∀ b, rowB B b → Hs b = none)
    ⟨none, 0, B0, m0, d0, B1, m1, d1, lr, ns, H, rfl, by omega, Ext.refl H, Ext.refl H, hp, by simpa [runP] using he, Row.nil, fun b ⟨o, q, hb⟩ => (by cases hb)⟩ ?_
  rintro i s H' next hi ⟨B, d, C0, k0, e0, C1, k1, e1, l', ns', Hs, rfl, _, hx0, hx1, hp', hr, hrow, hrb⟩ hnext
  dsimp only
  by_cases h : i < l.length
  rotate_left
  · obtain rfl : i = l.length := by omega
    rw [List.take_length] at hr hrow
    exact cndF (by simp) (hq _ _ _ _ _ _ _ _ _ _ _ (hx0.trans hx1) (hp'.ext hx1) hr hrow)
  obtain ⟨a, ha⟩ : ∃ a, l[i]? = some a := ⟨_, List.getElem?_eq_getElem h⟩
  have htk : l.take (i + 1) = l.take i ++ [a] := by rw [List.take_add_one, ha]; rfl
  have hsize : partsP l' ns' + 2 < big := by
    rw [← sizeP_ps, hr]
    have := run_size (p := p) (l := l.take i)
    have hl2 : (l.take i).length ≤ l.length := by rw [List.length_take]; omega
    unfold big; omega
  have after : ∀ (C : Option Addr) (k e : Nat) (C' : Option Addr) (k' e' : Nat) H1 H13 l2 ns2, Ext Hs H1 → Ext H1 H13 → (∀ b, Hs b = none → H' b ≠ none → H1 b = none ∧ H13 b = H' b) → PairAt H1 C k C' k' l2 ns2 → psOf l2 ns2 = runP p (l.take (i + 1)) → newF H13 32 [.int .i64 (doCode (psOf l' ns') a.1 a.2.1 a.2.2)] fun g24 H25 => appendF H25 32 1 8 B i d (some ⟨g24, 0, none⟩) 1 fun A26 n26 c26 H27 => KeepX [some (.loc 2 0), some (.loc 4 0), some (.v (.slice A l.length c)), some (.v (.int .i64 ((l.length : Nat) : Int)))] [some (true, [.slice none 0 0, .slice none 0 0])] ∧ next (((A26, n26, c26), (IntKind.i64.wrap ((i : Int) + 1), ())), (((C, k, e), ((C', k', e'), ())), ())) H27 := by
    intro C k e C' k' e' H1 H13 l2 ns2 hx2 hx3 hpart hp2 he2 g hg
    have hne : ∀ b, H13 b ≠ none → (upd g (.cells [Value.int .i64 (doCode (psOf l' ns') a.1 a.2.1 a.2.2)].toArray 32 (0, 0)) H13) b = H13 b := fun b hb => upd_off (fun e => hb (e ▸ hg))
    have R : Row H (upd g (.cells [Value.int .i64 (doCode (psOf l' ns') a.1 a.2.1 a.2.2)].toArray 32 (0, 0)) H13) B i d 1 (ints (runC p (l.take i))) := hrow.keep fun b hb => by
      have hl := (hrow.lt hb).1
      have h1 := (hpart b (hrb b hb) hl).2
      rw [hne b (by rw [h1]; exact hl), h1]
    have hxH : Ext H (upd g (.cells [Value.int .i64 (doCode (psOf l' ns') a.1 a.2.1 a.2.2)].toArray 32 (0, 0)) H13) := ((hx0.trans hx2).trans hx3).trans (Ext.new hg)
    refine R.append (new := ints [doCode (psOf l' ns') a.1 a.2.1 a.2.2]) hxH (.inr ⟨g, 0, rfl, fun j v hj => by rw [cl_cells upd_at, Nat.zero_add]; exact hj⟩) rfl ints_one (by omega) (by omega) ?_
    intro A' c' H27 hrow2 hx4 hch hnew _
    have gone : ∀ b, rowB A' b → H1 b = none := fun b hb => by
      rcases hnew b hb with h1 | h1
      · exact (hpart b (hrb b h1) (hrow.lt h1).1).1
      · exact hx3.none ((Ext.new hg).none h1)
    refine ⟨rfl, hnext _ _ h ⟨A', c', C, k, e, C', k', e', l2, ns2, H1, ?_, by omega, hx0.trans hx2, fun b o hb => ?_, hp2, he2, ?_, gone⟩⟩
    · rw [wrap_id (by omega) (by omega)]; rfl
    · have h1 := hx3 b o hb
      have h2 := hne b (by rw [h1]; simp)
      cases Classical.em (H27 b = (upd g (.cells [Value.int .i64 (doCode (psOf l' ns') a.1 a.2.1 a.2.2)].toArray 32 (0, 0)) H13) b) with
      | inl h3 => rw [h3, h2, h1]
      | inr h3 => rw [gone b (hch b h3).1] at hb; cases hb
    · have e3 : ints (runC p (l.take (i + 1))) = ints (runC p (l.take i)) ++ ints [doCode (psOf l' ns') a.1 a.2.1 a.2.2] := by
        rw [htk, runC_snoc, hr]; simp [ints]
      rw [e3]
      exact hrow2
  refine cndT (by simpa using h) ⟨by omega, by omega, rd_act ((hA.ext hx0).ext hx1) ha fun b o _ q1 q2 q3 => ⟨_, by simpa using q1, _, by simpa using q2, _, by simpa using q3, ?_⟩⟩
  unfold jn
  have hstep : runP p (l.take (i + 1)) = stepP (psOf l' ns') a := by rw [htk, runP_snoc, hr]
  have call : HCalls Try.prog f [.agg #[.slice C0 k0 e0, .slice C1 k1 e1], .agg #[.int .i64 a.1, .int .i64 a.2.1, .int .i64 a.2.2]] Hs fun v H1 => ∃ (A : Option Addr) (n c : Nat) (A' : Option Addr) (n' c' : Nat) (l2 : List RS) (ns2 : List (Int × Int)), v = .tuple #[.agg #[.slice A n c, .slice A' n' c'], .int .i64 (doCode (psOf l' ns') a.1 a.2.1 a.2.2)] ∧ Ext Hs H1 ∧ PairAt H1 A n A' n' l2 ns2 ∧ psOf l2 ns2 = doPair (psOf l' ns') a.1 a.2.1 a.2.2 := by
    rcases hf with rfl | rfl
    · exact c11 hp' hsize fun A n c A' n' c' H1 l2 ns2 h1 h2 h3 => ⟨A, n, c, A', n', c', l2, ns2, rfl, h1, h2, h3⟩
    · exact c12 hp' hsize fun A n c A' n' c' H1 l2 ns2 h1 h2 h3 => ⟨A, n, c, A', n', c', l2, ns2, rfl, h1, h2, h3⟩
  refine (call.part hx1).mono ?_
  rintro v H13 ⟨H1, ⟨E, k, e, E', k', e', l2, ns2, rfl, g1, g2, g3⟩, g4, g5⟩
  refine ⟨E, k, e, E', k', e', _, rfl, cndI (fun hc => ?_) (fun hc => ?_)⟩
  · have hc' : doCode (psOf l' ns') a.1 a.2.1 a.2.2 = 0 := by simpa using hc
    exact after E k e E' k' e' H1 H13 l2 ns2 g1 g4 g5 g2 (by rw [hstep, g3]; unfold stepP; rw [if_pos hc'])
  · have hc' : doCode (psOf l' ns') a.1 a.2.1 a.2.2 ≠ 0 := by simpa using hc
    exact after C0 k0 e0 C1 k1 e1 H1 H13 l' ns' g1 g4 g5 (hp'.ext g1) (by rw [hstep]; unfold stepP; rw [if_neg hc'])
theorem c22 {A : Option Addr} {n c : Nat} {l : List Act3} (hA : ActsAt H A n l) (hl : l.length < 1000000)
    (hq : ∀ A n c A' n' c' B d H' l' ns', Ext H H' → PairAt H' A n A' n' l' ns' → psOf l' ns' = runP newP l → cellsAt H' B (ints (runC newP l)) → Q (.tuple #[.agg #[.slice A n c, .slice A' n' c'], .slice B l.length d]) H') : HCalls Try.prog 22 [.slice A n c] H Q := by
  refine f22.ok _ _ _ ?_
  unfold f22
  refine c24 fun g H2 l' hx hp he => ⟨_, _, _, _, _, _, rfl, runLoop (.inl rfl) (hA.ext hx) hl (by decide) hp he fun A n c A' n' c' B d H' l' ns' h1 h2 h3 h4 => hq A n c A' n' c' B d H' l' ns' (hx.trans h1) h2 h3 h4.cells⟩
theorem c23 {A : Option Addr} {n c : Nat} {l : List Act3} (hA : ActsAt H A n l) (hl : l.length < 1000000)
    (hq : ∀ A n c A' n' c' B d H' l' ns', Ext H H' → PairAt H' A n A' n' l' ns' → psOf l' ns' = runP newP l → cellsAt H' B (ints (runC newP l)) → Q (.tuple #[.agg #[.slice A n c, .slice A' n' c'], .slice B l.length d]) H') : HCalls Try.prog 23 [.slice A n c] H Q := by
  refine f23.ok _ _ _ ?_
  unfold f23
  refine c27 fun g H2 l' hx hp he => ⟨_, _, _, _, _, _, rfl, runLoop (.inr rfl) (hA.ext hx) hl (by decide) hp he fun A n c A' n' c' B d H' l' ns' h1 h2 h3 h4 => hq A n c A' n' c' B d H' l' ns' (hx.trans h1) h2 h3 h4.cells⟩
end
end Go.Proofs.Ytkkmoeimcedkgaa.Hw
