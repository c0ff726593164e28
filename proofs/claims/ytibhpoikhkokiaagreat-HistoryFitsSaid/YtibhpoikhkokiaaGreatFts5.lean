/- Td Te Tf Tg Th Ti Tj Tk Sh Tq Sf (joined by merge.py) -/
import Derived.Test.YtibhpoikhkokiaaGreatFts4
import Derived.Shelf.Sort.Plain
import Derived.Shelf.Slices.In.SortNone
import Derived.Test.YtibhpoikhkokiaaGreatProg
import Derived.Shelf.SlSortCmp.NoneTotal
/- Histories: the checker's event. -/
set_option linter.unusedVariables false
set_option linter.unusedSimpArgs false
set_option maxRecDepth 20000
namespace Go.Proofs.YtibhpoikhkokiaaGreat.Hw
open Go Go.Proofs
theorem MapF.congr {H : Hp} {b : Nat} {f f' : Int → Option Value} (h : MapF H b f) (e : ∀ x, f x = f' x) : MapF H b f' := by
  obtain ⟨kv, hm, hf⟩ := h
  exact ⟨kv, hm, fun x => (hf x).trans (e x)⟩
theorem MapF2.congr {H : Hp} {b : Nat} {f f' : Int → Int → Option Value} (h : MapF2 H b f) (e : ∀ x y, f x y = f' x y) : MapF2 H b f' := by
  obtain ⟨es, clock, h1, h2, h3⟩ := h
  exact ⟨es, clock, h1, h2, fun x y => (h3 x y).trans (e x y)⟩
section
variable {H0 H H' : Hp} {c ct cw co e g : Nat} {blk : Int → Nat} {p : List Ev} {t : Int} {vb ve : Bool} {vs : Int} {W : Int → Int → Option Value} {O : Int → Option Value} {x : Ev} {Q : Value → Hp → Prop}
theorem CkAt.grow (C : CkAt H0 H c ct cw co blk p) (hx : Ext H H') : CkAt H0 H' c ct cw co blk p := by
  obtain ⟨tc, hc⟩ := C.cell
  have hk : ∀ q, H q ≠ none → H' q = H q := fun q hq => by
    cases h : H q with
    | none => exact absurd h hq
    | some o => exact hx q o h
  refine ⟨C.ext.trans hx, ⟨tc, hx _ _ hc⟩, C.n1, C.n2, C.n3, C.n4, C.txns.keep (hk _ C.txns.live), fun u hu => ?_, C.inj, C.wrote.keep (hk _ C.wrote.live), C.opn.keep (hk _ C.opn.live), C.d1, C.d2, C.d3, C.zero⟩
  obtain ⟨⟨ty, h1⟩, h2⟩ := C.each u hu
  exact ⟨⟨ty, hx _ _ h1⟩, h2⟩
theorem ev_cl (h : ∃ ty, H g = some (.cells (evC x).toArray ty (0, 0))) (k : Nat) : cl H g k = (evC x)[k]? := by
  obtain ⟨ty, h⟩ := h
  exact cl_cells h k
theorem MidAt.own_cl (M : MidAt H0 H c ct cw co blk p t e vb ve vs W O g x) (k : Nat) : cl H e k = ([Value.bool vb, .bool ve, .int .i64 vs])[k]? := by
  obtain ⟨ty, h⟩ := M.own
  exact cl_cells (cs := [Value.bool vb, .bool ve, .int .i64 vs]) h k
/-- A store into the state's block. -/
theorem MidAt.store {vb' ve' : Bool} {vs' : Int} {k : Nat} {v : Value} {K : Hp → Prop} (M : MidAt H0 H c ct cw co blk p t e vb ve vs W O g x) (hk : k < 3) (hs : setR [Value.bool vb, .bool ve, .int .i64 vs] k [v] = [Value.bool vb', .bool ve', .int .i64 vs'])
    (hq : ∀ H', MidAt H0 H' c ct cw co blk p t e vb' ve' vs' W O g x → K H') : storeF H e k [v] K := by
  obtain ⟨ty, h⟩ := M.own
  refine ⟨[.bool vb, .bool ve, .int .i64 vs], ty, h, by simp; omega, ?_⟩
  rw [hs]
  have ho : ∀ o q, q ≠ e → (upd e o H) q = H q := fun o q hq => upd_off hq
  exact hq _ (M.move (fun q h1 _ _ _ => ho _ q h1) ⟨ty, upd_at⟩ (M.wrote.keep (ho _ _ (M.wrote.ne h))) (M.opn.keep (ho _ _ (M.opn.ne h))))
theorem MidAt.putW {i : Int} {K : Hp → Prop} {v : Value} {u : Int} (M : MidAt H0 H c ct cw co blk p t e vb ve vs W O g x)
    (hq : ∀ H', MidAt H0 H' c ct cw co blk p t e vb ve vs (fun u' i' => if u' = u ∧ i' = i then some v else W u' i') O g x → K H') : putF2 H (some cw) u i v K := by
  obtain ⟨ty, h⟩ := M.own
  refine M.wrote.put fun H' hm ho => hq H' (M.move (fun q _ h2 _ _ => ho q h2) ⟨ty, (ho _ (M.wrote.ne h).symm).trans h⟩ hm (M.opn.keep (ho _ M.d3.symm)))
theorem MidAt.putO {i : Int} {K : Hp → Prop} {v : Value} (M : MidAt H0 H c ct cw co blk p t e vb ve vs W O g x)
    (hq : ∀ H', MidAt H0 H' c ct cw co blk p t e vb ve vs W (fun i' => if i' = i then some v else O i') g x → K H') : putF H .i64 (some co) i v K := by
  obtain ⟨ty, h⟩ := M.own
  refine M.opn.put fun H' hm ho => hq H' (M.move (fun q _ _ h3 _ => ho q h3) ⟨ty, (ho _ (M.opn.ne h).symm).trans h⟩ (M.wrote.keep (ho _ M.d3)) hm)
theorem c87 {ax who : Int} {x1 : Int} (h : cl H g 1 = some (.int .i64 x1)) (hq : Q (.bool (who == x1)) H) : HCalls Tryz.prog 87 [.int .i64 ax, .int .i64 who, .pointer (some ⟨g, 0, none⟩)] H Q := by
  refine f87.ok _ _ _ _ ?_
  unfold f87
  exact ⟨x1, by simpa using h, hq⟩
theorem snoc1 (o : x.op = 1) (u : Int) : endedM (p ++ [x]) u = endedM p u ∧ stmtM (p ++ [x]) u = stmtM p u ∧ (∀ u i, wroteM (p ++ [x]) u i = wroteM p u i) ∧ ∀ i, openM (p ++ [x]) i = openM p i := by
  refine ⟨?_, ?_, fun u i => ?_, fun i => ?_⟩
  · rw [ended_snoc]; unfold isE; rw [o]; simp
  · rw [stmt_snoc]; unfold stmtStep; rw [o]; simp
  · rw [wrote_snoc]; unfold isW; rw [o]; simp
  · rw [open_snoc]; unfold openStep; rw [o]; simp
theorem snoc2 (o : x.op = 2) : endedM (p ++ [x]) x.txn = endedM p x.txn ∧ stmtM (p ++ [x]) x.txn = x.stmt ∧ (∀ u i, wroteM (p ++ [x]) u i = wroteM p u i) ∧ ∀ i, openM (p ++ [x]) i = openM p i := by
  refine ⟨?_, ?_, fun u i => ?_, fun i => ?_⟩
  · rw [ended_snoc]; unfold isE; rw [o]; simp
  · rw [stmt_snoc]; unfold stmtStep; rw [o]; simp
  · rw [wrote_snoc]; unfold isW; rw [o]; simp
  · rw [open_snoc]; unfold openStep; rw [o]; simp
theorem snoc3 (o : x.op = 3) : endedM (p ++ [x]) x.txn = endedM p x.txn ∧ stmtM (p ++ [x]) x.txn = x.stmt ∧ (∀ u i, boolAt (wroteM (p ++ [x]) u i) = if u = x.txn ∧ i = x.item then some (.bool true) else boolAt (wroteM p u i)) ∧ ∀ i, (openM (p ++ [x]) i).map (Value.int .i64) = if i = x.item then some (.int .i64 x.txn) else (openM p i).map (Value.int .i64) := by
  refine ⟨?_, ?_, fun u i => ?_, fun i => ?_⟩
  · rw [ended_snoc]; unfold isE; rw [o]; simp
  · rw [stmt_snoc]; unfold stmtStep; rw [o]; simp
  · rw [wrote_snoc]; unfold isW; rw [o]
    by_cases h : u = x.txn ∧ i = x.item
    · rw [if_pos h, h.1, h.2]; simp [boolAt]
    · rw [if_neg h]
      have : ((3 : Int) == 3 && (x.txn == u && x.item == i)) = false := by
        cases h1 : x.txn == u <;> cases h2 : x.item == i <;> first | rfl | skip
        exact absurd ⟨(by simpa using h1 : x.txn = u).symm, (by simpa using h2 : x.item = i).symm⟩ h
      rw [this, Bool.or_false]
  · rw [open_snoc]; unfold openStep; rw [o]
    by_cases h : i = x.item
    · rw [if_pos h, h]; simp
    · have : ((3 : Int) == 3 && x.item == i) = false := by simpa using fun e => h e.symm
      rw [if_neg h, this]; simp
theorem snoc4 (o : x.op = 4 ∨ x.op = 5) : endedM (p ++ [x]) x.txn = true ∧ stmtM (p ++ [x]) x.txn = stmtM p x.txn ∧ (∀ u i, wroteM (p ++ [x]) u i = wroteM p u i) ∧ ∀ i, openM (p ++ [x]) i = (openM p i).filter fun v => !(v == x.txn) := by
  refine ⟨?_, ?_, fun u i => ?_, fun i => ?_⟩
  · rw [ended_snoc]; unfold isE; rcases o with o | o <;> rw [o] <;> simp
  · rw [stmt_snoc]; unfold stmtStep; rcases o with o | o <;> rw [o] <;> simp
  · rw [wrote_snoc]; unfold isW; rcases o with o | o <;> rw [o] <;> simp
  · rw [open_snoc]; unfold openStep
    have h3 : (x.op == 3 && x.item == i) = false := by rcases o with o | o <;> rw [o] <;> simp
    have h4 : (x.op == 4 || x.op == 5) = true := by rcases o with o | o <;> rw [o] <;> simp
    rw [h3, h4]
    cases openM p i with
    | none => rfl
    | some v =>
      by_cases h : v = x.txn
      · subst h; simp [Option.filter]
      · have e1 : (some v == some x.txn) = false := by simpa using h
        have e2 : (v == x.txn) = false := by simpa using h
        simp [Option.filter, e1, e2, h]
theorem max_le {a b : Int} : decide (b ≥ (if (1 : Int) > a then 1 else a)) = decide (max a 1 ≤ b) := by
  apply decide_eq_decide.2
  split <;> omega
theorem c53 (C : CkAt H0 H c ct cw co blk p) (hq : ∀ b H', Ext H0 H' → b = evOk p x → (b = true → ∃ blk', CkAt H0 H' c ct cw co blk' (p ++ [x])) → Q (.bool b) H') :
    HCalls Tryz.prog 53 [.pointer (some ⟨c, 0, none⟩), .agg #[.int .i64 x.op, .int .i64 x.txn, .int .i64 x.item, .int .i64 x.frm, .int .i64 x.stmt]] H Q := by
  refine f53.ok _ _ _ _ _ _ _ ?_
  unfold f53
  intro g hg
  generalize hH2 : upd g (Obj.cells _ 35 _) H = H2
  have x2 : Ext H H2 := by subst hH2; exact Ext.new hg
  have hev2 : ∃ ty, H2 g = some (.cells (evC x).toArray ty (0, 0)) := ⟨35, by subst hH2; exact upd_at⟩
  have C2 := C.grow x2
  have hgn : ∀ q, H q ≠ none → q ≠ g := fun q hq e => hq (e ▸ hg)
  obtain ⟨tc, hc⟩ := C2.cell
  refine ⟨some ct, cl_cells (cs := [.map (some ct), .map (some cw), .map (some co)]) hc 0, x.txn, ev_cl hev2 1, C2.txns.look ⟨if begunM p x.txn then some ⟨blk x.txn, 0, none⟩ else none, by cases begunM p x.txn <;> rfl, ?_⟩⟩
  refine jn_intro (fun J => ∀ e H', MidAt H0 H' c ct cw co blk p x.txn e (begunM p x.txn) (endedM p x.txn) (stmtM p x.txn) (fun u i => boolAt (wroteM p u i)) (fun i => (openM p i).map (.int .i64)) g x → J (some ⟨e, 0, none⟩) H') (fun e H14 M => ?_) fun J hJ => ?_
  rotate_left
  · cases hb : begunM p x.txn with
    | true =>
      rw [hb] at hJ
      obtain ⟨own, ne⟩ := C2.each _ hb
      have M : MidAt H0 H2 c ct cw co blk p x.txn (blk x.txn) true (endedM p x.txn) (stmtM p x.txn) (fun u i => boolAt (wroteM p u i)) (fun i => (openM p i).map (.int .i64)) g x :=
        ⟨C2.ext, C2.cell, C2.n1, C2.n2, C2.n3, C2.n4, ne, C2.txns.congr fun u => by
          by_cases hu : u = x.txn
          · subst hu; rw [if_pos rfl, hb]; rfl
          · rw [if_neg hu], own, fun u hu hbu => ⟨(C2.each u hbu).1, (C2.each u hbu).2, fun h => hu (C2.inj u _ hbu hb h)⟩, C2.inj, C2.wrote, C2.opn, C2.d1, C2.d2, C2.d3, hev2, fun h => by
            obtain ⟨⟨ty, h1⟩, _⟩ := C.each _ hb
            exact hgn (blk x.txn) (by rw [h1]; simp) h.symm⟩
      exact cndF rfl (hJ _ _ M)
    | false =>
      obtain ⟨hz1, hz2⟩ := C2.zero _ hb
      rw [hb, hz1, hz2] at hJ
      refine cndT rfl fun g8 hg8 => ?_
      generalize hH9 : upd g8 (Obj.cells _ 113 _) H2 = H9
      have x9 : Ext H2 H9 := by subst hH9; exact Ext.new hg8
      have C9 := C2.grow x9
      obtain ⟨tc9, hc9⟩ := C9.cell
      have hev9 : ∃ ty, H9 g = some (.cells (evC x).toArray ty (0, 0)) := by obtain ⟨ty, h⟩ := hev2; exact ⟨ty, x9 _ _ h⟩
      have own9 : H9 g8 = some (.cells #[.bool false, .bool false, .int .i64 0] 113 (0, 0)) := by subst hH9; exact upd_at
      refine ⟨some ct, cl_cells (cs := [.map (some ct), .map (some cw), .map (some co)]) hc9 0, x.txn, ev_cl hev9 1, C9.txns.put fun H12 hm ho => hJ g8 H12 ?_⟩
      have hctg : ct ≠ g8 := C9.txns.ne own9
      refine ⟨fun q o hqo => (ho q fun h => by rw [h, C9.n2] at hqo; cases hqo).trans (C9.ext q o hqo), ⟨tc9, (ho c (C9.txns.ne hc9).symm).trans hc9⟩, C9.n1, C9.n2, C9.n3, C9.n4, ?_, hm, ⟨113, (ho g8 hctg.symm).trans own9⟩, fun u hu hbu => ?_, C9.inj, C9.wrote.keep (ho _ C9.d1.symm), C9.opn.keep (ho _ C9.d2.symm), C9.d1, C9.d2, C9.d3, ?_, ?_⟩
      · cases h : H0 g8 with
        | none => rfl
        | some o => rw [C2.ext _ _ h] at hg8; cases hg8
      · obtain ⟨⟨ty, h1⟩, h2⟩ := C9.each u hbu
        refine ⟨⟨ty, (ho _ (C9.txns.ne h1).symm).trans h1⟩, h2, fun h => ?_⟩
        obtain ⟨⟨ty', h1'⟩, _⟩ := C2.each u hbu
        rw [h, hg8] at h1'; cases h1'
      · obtain ⟨ty, h⟩ := hev9
        exact ⟨ty, (ho g (C9.txns.ne h).symm).trans h⟩
      · rintro rfl
        obtain ⟨ty, h⟩ := hev2
        rw [hg8] at h; cases h
  refine jn_intro (fun J => (evOk p x = false → J true H14) ∧ (inB x.txn = true → endedM p x.txn = false → (begunM p x.txn != (x.op == 1)) = true → J false H14)) ⟨fun hf => cndT rfl (hq false H14 M.ext hf.symm fun h => (by cases h)), fun h1 h2 h3 => cndF rfl ?_⟩ fun J h => ?_
  rotate_left
  · refine ⟨x.txn, ev_cl M.ev 1, c85 ⟨_, rfl, cndI (fun b => h.1 ?_) fun b => ?_⟩⟩
    · unfold evOk; rw [show inB x.txn = false by simpa using b]; rfl
    · have b1 : inB x.txn = true := by simpa using b
      refine ⟨_, M.own_cl 1, cndI (fun b => h.1 ?_) fun b2 => ⟨_, M.own_cl 0, _, ev_cl M.ev 0, ?_⟩⟩
      · unfold evOk; rw [b1, b]; rfl
      · cases h3 : (begunM p x.txn == (x.op == 1)) with
        | true => exact h.1 (by unfold evOk bne; rw [b1, b2, h3]; rfl)
        | false => exact h.2 b1 b2 (by unfold bne; rw [h3]; rfl)
  have hE : evOk p x = (if x.op == 1 then plainB x
   else if x.op == 2 then inB x.item && (decide (max (stmtM p x.txn) 1 ≤ x.stmt) && (x.frm == 0 || wroteM p x.frm x.item))
   else if x.op == 3 then inB x.item && (decide (max (stmtM p x.txn) 1 ≤ x.stmt) && (!takenB p x.txn x.item && x.frm == 0))
   else if x.op == 4 || x.op == 5 then plainB x
   else false) := by unfold evOk; rw [h1, h2, h3]; rfl
  refine ⟨x.op, ev_cl M.ev 0, x.txn, ev_cl M.ev 1, jn_intro (fun J => ∀ b it fr st H', (∃ ty, H' g = some (.cells (evC x).toArray ty (0, 0))) → Q (.bool (b && ((x.item == it) && ((x.frm == fr) && (x.stmt == st))))) H' → J b it fr st H') (fun b it fr st H' hev hQ => ?_) fun J hJ => ?_⟩
  · unfold jn
    refine cndI (fun hb => ?_) (fun hb => ?_)
    · refine ⟨_, ev_cl hev 0, _, ev_cl hev 1, _, ev_cl hev 2, _, ev_cl hev 3, _, ev_cl hev 4, ?_⟩
      rw [hb] at hQ
      simpa using hQ
    · rw [hb] at hQ; exact hQ
  refine ⟨x.op, ev_cl M.ev 0, cndI (fun o1 => ?_) fun o1 => cndI (fun o2 => ?_) fun o2 => cndI (fun o3 => ?_) fun o3 => ?_⟩
  · have o : x.op = 1 := by simpa using o1
    refine M.store (k := 0) (vb' := true) (by omega) rfl fun H' M' => hJ true 0 0 0 H' M'.ev (hq _ H' M'.ext ?_ fun hb => ?_)
    · rw [hE, o1]; rfl
    · obtain ⟨s1, s2, s3, s4⟩ := snoc1 (p := p) o x.txn
      refine ⟨_, MidAt.next (e := e) (g := g) (blk := blk) ?_ (?_ : evOk p x = true) C.zero⟩
      · simp only [s1, s2, s3, s4]; exact M'
      · rw [hE, o1]; exact hb
  · have o : x.op = 2 := by simpa using o2
    refine ⟨x.item, ev_cl M.ev 2, x.frm, ev_cl M.ev 3, x.stmt, ev_cl M.ev 4, jn_intro (fun J => ∀ b, b = (inB x.item && (decide (max (stmtM p x.txn) 1 ≤ x.stmt) && (x.frm == 0 || wroteM p x.frm x.item))) → J b H14) (fun b hb => ⟨x.stmt, ev_cl M.ev 4, ?_⟩) fun J h => ?_⟩
    · have hEb : evOk p x = b := by rw [hE, o1, o2, hb]; rfl
      refine M.store (k := 2) (vs' := x.stmt) (by omega) rfl fun H' M' => hJ b _ _ _ H' M'.ev (hq _ H' M'.ext ?_ fun hb' => ?_)
      · rw [hEb]; simp
      · obtain ⟨s1, s2, s3, s4⟩ := snoc2 (p := p) o
        have hbt : b = true := by simpa using hb'
        have hok : evOk p x = true := hEb.trans hbt
        refine ⟨_, MidAt.next (e := e) (g := g) (blk := blk) ?_ hok C.zero⟩
        have hbeg := (ev_parts hok).2.2.1.2 (by rw [o]; decide)
        rw [hbeg] at M'
        simp only [s1, s2, s3, s4]; exact M'
    · refine ⟨x.item, ev_cl M.ev 2, c85 ⟨_, rfl, cndI (fun b1 => ?_) fun b1 => h _ (by rw [b1]; rfl)⟩⟩
      refine ⟨x.stmt, ev_cl M.ev 4, _, M.own_cl 2, rfl, ?_⟩
      rw [max_le]
      refine cndI (fun b2 => ⟨x.frm, ev_cl M.ev 3, cndI (fun b3 => h _ (by rw [b1, b2, b3]; rfl)) fun b3 => ?_⟩) fun b2 => h _ (by rw [b1, b2]; rfl)
      obtain ⟨tc', hc'⟩ := M.cell
      refine ⟨some cw, cl_cells (cs := [.map (some ct), .map (some cw), .map (some co)]) hc' 1, x.frm, ev_cl M.ev 3, x.item, ev_cl M.ev 2, M.wrote.look ⟨wroteM p x.frm x.item, by unfold boolAt; cases wroteM p x.frm x.item <;> rfl, h _ (by rw [b1, b2, b3]; rfl)⟩⟩
  · have o : x.op = 3 := by simpa using o3
    obtain ⟨tc', hc'⟩ := M.cell
    refine ⟨x.item, ev_cl M.ev 2, x.stmt, ev_cl M.ev 4, some co, cl_cells (cs := [.map (some ct), .map (some cw), .map (some co)]) hc' 2, x.item, ev_cl M.ev 2, M.opn.look ⟨(openM p x.item).getD 0, by cases openM p x.item <;> rfl, ?_⟩⟩
    refine jn_intro (fun J => ∀ b, b = (inB x.item && (decide (max (stmtM p x.txn) 1 ≤ x.stmt) && !takenB p x.txn x.item)) → J b H14) (fun b hb => ⟨x.stmt, ev_cl M.ev 4, ?_⟩) fun J h => ?_
    · have hEb : evOk p x = (b && x.frm == 0) := by rw [hE, o1, o2, o3, hb]; simp only [Bool.and_assoc]; rfl
      refine onPtrI ?_
      show storeF H14 e 2 _ _
      refine M.store (k := 2) (vs' := x.stmt) (by omega) rfl fun H' M' => ?_
      obtain ⟨tc2, hc2⟩ := M'.cell
      refine ⟨some cw, cl_cells (cs := [.map (some ct), .map (some cw), .map (some co)]) hc2 1, x.txn, ev_cl M'.ev 1, x.item, ev_cl M'.ev 2, M'.putW fun H3 M3 => ?_⟩
      obtain ⟨tc3, hc3⟩ := M3.cell
      refine ⟨some co, cl_cells (cs := [.map (some ct), .map (some cw), .map (some co)]) hc3 2, x.item, ev_cl M3.ev 2, x.txn, ev_cl M3.ev 1, M3.putO fun H4 M4 => hJ b _ _ _ H4 M4.ev (hq _ H4 M4.ext ?_ fun hb' => ?_)⟩
      · rw [hEb]; simp
      · obtain ⟨s1, s2, s3, s4⟩ := snoc3 (p := p) o
        have hok : evOk p x = true := by rw [hEb]; simpa using hb'
        refine ⟨_, MidAt.next (e := e) (g := g) (blk := blk) ?_ hok C.zero⟩
        have hbeg := (ev_parts hok).2.2.1.2 (by rw [o]; decide)
        rw [hbeg] at M4
        simp only [s1, s2, s3, s4]; exact M4
    · refine ⟨x.item, ev_cl M.ev 2, c85 ⟨_, rfl, cndI (fun b1 => ?_) fun b1 => h _ (by rw [b1]; rfl)⟩⟩
      refine ⟨x.stmt, ev_cl M.ev 4, _, M.own_cl 2, rfl, ?_⟩
      rw [max_le]
      refine cndI (fun b2 => cndI (fun b3 => h _ ?_) fun b3 => ⟨x.txn, ev_cl M.ev 1, h _ ?_⟩) fun b2 => h _ (by rw [b1, b2]; rfl)
      · rw [b1, b2]; unfold takenB
        cases ho : openM p x.item with
        | none => rfl
        | some w => rw [ho] at b3; cases b3
      · rw [b1, b2]; unfold takenB
        cases ho : openM p x.item with
        | none => rw [ho] at b3; cases b3
        | some w => simp
  · refine jn_intro (fun J => ((x.op == 4 || x.op == 5) = true → J true) ∧ ((x.op == 4 || x.op == 5) = false → J false)) ⟨fun o4 => cndT rfl ?_, fun o4 => cndF rfl (hJ false 0 0 0 H14 M.ev (hq _ H14 M.ext ?_ fun hb => ?_))⟩ fun J h => cndI (fun o4 => ?_) fun o4 => ?_
    · have o : x.op = 4 ∨ x.op = 5 := by simpa using o4
      have hE' : evOk p x = plainB x := by rw [hE, o1, o2, o3, o4]; rfl
      refine onPtrI ?_
      show storeF H14 e 1 _ _
      refine M.store (k := 1) (ve' := true) (by omega) rfl fun H' M' => ?_
      obtain ⟨tc2, hc2⟩ := M'.cell
      obtain ⟨te2, he2⟩ := M'.own
      refine ⟨some co, cl_cells (cs := [.map (some ct), .map (some cw), .map (some co)]) hc2 2, c86 (g := fun _ v => v == x.txn) M'.opn (fnOk 87 rfl) (fun k v H3 Q' hfr hQ' => ?_) fun H3 hm hfr => ⟨rfl, ?_⟩⟩
      · obtain ⟨tg, hg'⟩ := M'.ev
        refine c87 ?_ hQ'
        have e1 := ev_cl M'.ev 1
        unfold cl at e1 ⊢
        rw [hfr g (M'.opn.ne hg').symm (by rw [hg']; simp)]
        exact e1
      · have M3 := M'.move (H' := H3) (fun q _ _ h3 h4 => hfr q h3 h4) ⟨te2, (hfr e (M'.opn.ne he2).symm (by rw [he2]; simp)).trans he2⟩ (M'.wrote.keep (hfr _ M'.d3 M'.wrote.live)) hm
        refine hJ true 0 0 0 H3 M3.ev (hq _ H3 M3.ext ?_ fun hb => ?_)
        · rw [hE']; rfl
        · obtain ⟨s1, s2, s3, s4⟩ := snoc4 (p := p) o
          have hok : evOk p x = true := hE'.trans hb
          refine ⟨_, MidAt.next (e := e) (g := g) (blk := blk) ?_ hok C.zero⟩
          have hbeg := (ev_parts hok).2.2.1.2 (by rcases o with o | o <;> rw [o] <;> decide)
          rw [hbeg] at M3
          simp only [s1, s2, s3, s4]; exact M3
    · rw [hE, o1, o2, o3, o4]; rfl
    · cases hb
    · rw [o4]; exact h.1 (by rw [o4]; rfl)
    · cases o5 : x.op == 5 with
      | true => exact h.1 (by rw [o5, Bool.or_true])
      | false => exact h.2 (by rw [o4, o5]; rfl)
end
end Go.Proofs.YtibhpoikhkokiaaGreat.Hw

/- Histories: Valid. -/
set_option linter.unusedVariables false
set_option linter.unusedSimpArgs false
set_option maxRecDepth 20000
namespace Go.Proofs.YtibhpoikhkokiaaGreat.Hw
open Go Go.Proofs
theorem OkTo.succ {l : List Ev} {i : Nat} {x : Ev} (h : OkTo l i) (hx : l[i]? = some x) (ho : evOk (l.take i) x = true) : OkTo l (i + 1) := fun j y hj hy => by
  by_cases e : j = i
  · subst e; rw [hx] at hy; cases hy; exact ho
  · exact h j y (by omega) hy
section
variable {H0 H : Hp} {c ct cw co g : Nat} {blk : Int → Nat} {p : List Ev} {x : Ev} {Q : Value → Hp → Prop}
theorem c52 (C : CkAt H0 H c ct cw co blk p) (hg : cl H g 0 = some (.pointer (some ⟨c, 0, none⟩))) (hq : ∀ b H', Ext H0 H' → b = evOk p x → (b = true → ∃ blk', CkAt H0 H' c ct cw co blk' (p ++ [x])) → Q (.bool (!b)) H') :
    HCalls Tryz.prog 52 [.agg #[.int .i64 x.op, .int .i64 x.txn, .int .i64 x.item, .int .i64 x.frm, .int .i64 x.stmt], .pointer (some ⟨g, 0, none⟩)] H Q := by
  refine f52.ok _ _ _ _ _ _ _ ?_
  unfold f52
  exact ⟨_, hg, c53 C fun b H' h1 h2 h3 => ⟨b, rfl, hq b H' h1 h2 h3⟩⟩
theorem c84 {A : Option Addr} {n k : Nat} {l : List Ev} (hA : SlAt evC H0 A n l) (C : CkAt H0 H c ct cw co blk []) (hg : cl H0 g 0 = some (.pointer (some ⟨c, 0, none⟩))) (hq : ∀ r H', Ext H0 H' → decide (r ≥ 0) = !goodB l → Q (.int .i64 r) H') :
    HCalls Tryz.prog 84 [.slice A n k, .func (.func 52) #[] #[.pointer (some ⟨g, 0, none⟩)]] H Q := by
  refine f84.ok _ _ _ _ _ _ ?_
  unfold f84
  obtain rfl := hA.len
  have hlt := hA.lt
  refine scan hlt (fun i H' => OkTo l i ∧ ∃ blk, CkAt H0 H' c ct cw co blk (l.take i)) ⟨fun i x hi => by omega, blk, C⟩ (fun i H' next hi hI hnext => ?_) (fun H' next hI => ?_)
  · obtain ⟨hok, blk', C'⟩ := hI
    obtain ⟨x, hx⟩ := get_of hi
    dsimp only
    refine cndT (decide_eq_true (by omega)) ⟨by omega, by omega, rd_ev (hA.ext C'.ext) hx fun q o _ k1 k2 k3 k4 k5 => ⟨x.op, by simpa using k1, x.txn, by simpa using k2, x.item, by simpa using k3, x.frm, by simpa using k4, x.stmt, by simpa using k5, fnOk 52 rfl, c52 C' (cl_ext C'.ext hg) fun b H2 h1 h2 h3 => ⟨!b, rfl, cndI (fun hb => hq _ H2 h1 ?_) fun hb => ⟨rfl, hnext H2 ?_⟩⟩⟩⟩
    · have hf : evOk (l.take i) x = false := by rw [← h2]; simpa using hb
      have : goodB l = false := by
        cases hgd : goodB l with
        | false => rfl
        | true => rw [good_iff.1 hgd i x hi hx] at hf; cases hf
      rw [this, decide_eq_true (by omega)]; rfl
    · have hb : b = true := by simpa using hb
      obtain ⟨blk2, C2⟩ := h3 hb
      rw [← take_snoc hx] at C2
      exact ⟨hok.succ hx (by rw [← h2]; exact hb), blk2, C2⟩
  · obtain ⟨hok, blk', C'⟩ := hI
    dsimp only
    refine cndF (decide_eq_false (by omega)) (hq _ H' C'.ext ?_)
    rw [good_iff.2 hok]; rfl
theorem c51 {A : Option Addr} {n k : Nat} {l : List Ev} (hA : SlAt evC H0 A n l) (C : CkAt H0 H c ct cw co blk []) (hg : cl H0 g 0 = some (.pointer (some ⟨c, 0, none⟩))) (hq : ∀ H', Ext H0 H' → Q (.bool (!goodB l)) H') :
    HCalls Tryz.prog 51 [.slice A n k, .func (.func 52) #[] #[.pointer (some ⟨g, 0, none⟩)]] H Q := by
  refine f51.ok _ _ _ _ _ _ ?_
  unfold f51
  exact c84 hA C hg fun r H' h1 h2 => ⟨r, rfl, by rw [h2]; exact hq H' h1⟩
theorem c14 {A : Option Addr} {n k : Nat} {l : List Ev} (hA : SlAt evC H A n l) (hq : ∀ H', Ext H H' → Q (.bool (validM l)) H') : HCalls Tryz.prog 14 [.slice A n k] H Q := by
  refine f14.ok _ _ _ ?_
  unfold f14
  obtain rfl := hA.len
  refine MapF.new fun m1 H2 hm1 x2 o2 M1 => MapF2.new fun m3 H4 hm3 x4 o4 M3 => MapF.new fun m5 H6 hm5 x6 o6 M5 => ?_
  intro g7 hg7
  generalize hH8 : upd g7 (Obj.cells _ 76 _) H6 = H8
  have e7 : H8 g7 = some (.cells #[.map (some m1), .map (some m3), .map (some m5)] 76 (0, 0)) := by subst hH8; exact upd_at
  have x8 : Ext H6 H8 := by subst hH8; exact Ext.new hg7
  intro g9 hg9
  have lv : ∀ {b} {X Y : Hp}, Ext X Y → X b ≠ none → Y b = X b := fun {b X Y} hx hb => by
    cases h : X b with
    | none => exact absurd h hb
    | some o => exact hx b o h
  have h26 : Ext H2 H6 := x4.trans x6
  have hH : Ext H H8 := ((x2.trans x4).trans x6).trans x8
  refine ⟨[.pointer none], 72, upd_at, by simp, ?_⟩
  show jn _ _
  generalize hH11 : upd g9 (Obj.cells _ 72 _) _ = H11
  have e9 : H11 g9 = some (.cells #[.pointer (some ⟨g7, 0, none⟩)] 72 (0, 0)) := by subst hH11; exact upd_at
  have o11 : ∀ q, q ≠ g9 → H11 q = H8 q := fun q hq => by subst hH11; rw [upd_off hq, upd_off hq]
  have x11 : Ext H8 H11 := fun q o hq => by rw [o11 q (fun e => by subst e; rw [hg9] at hq; cases hq)]; exact hq
  have hx11 : Ext H H11 := hH.trans x11
  have N : ∀ {b} {X : Hp}, Ext H X → X b = none → H b = none := fun hx hb => hx.none hb
  have h9 : H g9 = none := N hH hg9
  have hgm : ∀ b, H8 b ≠ none → b ≠ g9 := fun b hb e => hb (e ▸ hg9)
  have l1 : H8 m1 ≠ none := by rw [lv (h26.trans x8) M1.live]; exact M1.live
  have l3 : H8 m3 ≠ none := by rw [lv (x6.trans x8) M3.live]; exact M3.live
  have l5 : H8 m5 ≠ none := by rw [lv x8 M5.live]; exact M5.live
  have b0 : ∀ q, q ≠ g9 → (upd g9 (Obj.cells #[.pointer (some ⟨g7, 0, none⟩)] 72 (0, 0)) H) q = H q := fun q hq => upd_off hq
  have xB : Ext H (upd g9 (Obj.cells #[.pointer (some ⟨g7, 0, none⟩)] 72 (0, 0)) H) := Ext.new h9
  have l7 : H8 g7 ≠ none := by rw [e7]; simp
  have d13 : m1 ≠ m3 := fun e => M1.live (e ▸ hm3)
  have d15 : m1 ≠ m5 := fun e => by subst e; have := lv x4 M1.live; rw [hm5] at this; exact M1.live this.symm
  have d35 : m3 ≠ m5 := fun e => M3.live (e ▸ hm5)
  have C : CkAt (upd g9 (Obj.cells #[.pointer (some ⟨g7, 0, none⟩)] 72 (0, 0)) H) H11 g7 m1 m3 m5 (fun _ => 0) [] := by
    refine ⟨fun q o hq => ?_, ⟨76, (o11 g7 (hgm g7 l7)).trans e7⟩, (b0 g7 (hgm g7 l7)).trans (N ((x2.trans x4).trans x6) hg7), (b0 m1 (hgm m1 l1)).trans hm1, (b0 m3 (hgm m3 l3)).trans (N x2 hm3), (b0 m5 (hgm m5 l5)).trans (N (x2.trans x4) hm5), ?_, fun u hu => (by cases hu), fun u v hu => (by cases hu), ?_, ?_, d13, d15, d35, fun u _ => ⟨rfl, rfl⟩⟩
    · by_cases e : q = g9
      · subst e; rw [upd_at] at hq; rw [e9]; exact hq
      · rw [b0 q e] at hq; exact hx11 q o hq
    · exact (M1.keep (lv ((h26.trans x8).trans x11) M1.live)).congr fun u => rfl
    · exact (M3.keep (lv ((x6.trans x8).trans x11) M3.live)).congr fun u i => rfl
    · exact (M5.keep (lv (x8.trans x11) M5.live)).congr fun i => rfl
  unfold jn validM at *
  refine cndI (fun h => ?_) (fun h => ?_)
  · rw [show decide (l.length ≤ 2000) = true by rw [← h]; exact decide_eq_decide.2 (by omega), Bool.true_and] at hq
    refine c51 (hA.ext xB) C (by unfold cl; rw [upd_at]; rfl) fun H' h' => ⟨_, rfl, ?_⟩
    rw [Bool.not_not]
    exact hq H' (xB.trans h')
  · rw [show decide (l.length ≤ 2000) = false by rw [← h]; exact decide_eq_decide.2 (by omega), Bool.false_and] at hq
    exact hq H11 hx11
end
end Go.Proofs.YtibhpoikhkokiaaGreat.Hw

/- Histories: a map of rows of numbers, each on a block of its own. -/
set_option linter.unusedVariables false
set_option linter.unusedSimpArgs false
set_option maxRecDepth 20000
namespace Go.Proofs.YtibhpoikhkokiaaGreat.Hw
open Go Go.Proofs
/-- Blocks have roles: those with a role below 8 are the call's own. -/
def OwnR (H0 H : Hp) (rl : Nat → Nat) : Prop := ∀ q, rl q < 8 → H0 q = none ∧ H q ≠ none
theorem ints_eq {l : List Int} : l.flatMap inC = ints l := by
  induction l with
  | nil => rfl
  | cons a r ih => rw [List.flatMap_cons, ih]; rfl
theorem ints_append {a b : List Int} : ints (a ++ b) = ints a ++ ints b := by unfold ints; rw [List.map_append]
theorem Row.slI {H0 H : Hp} {A : Option Addr} {c : Nat} {l : List Int} (R : Row H0 H A l.length c 1 (ints l)) (hs : l.length < huge) : SlAt inC H A l.length l := ⟨rfl, by rw [ints_eq]; exact R.cells, hs⟩
structure Fam (H0 H : Hp) (rl : Nat → Nat) (v : Nat) (sl : Int → Option Addr × Nat) (vs : Int → List Int) : Prop where
  map : MapF H v (fun k => if (vs k).isEmpty then none else some (.slice (sl k).1 (vs k).length (sl k).2))
  row : ∀ k, (vs k).isEmpty = false → Row H0 H (sl k).1 (vs k).length (sl k).2 1 (ints (vs k)) ∧ ∀ q, rowB (sl k).1 q → rl q = 7
  disj : ∀ k k', (vs k).isEmpty = false → (vs k').isEmpty = false → k ≠ k' → ∀ q, rowB (sl k).1 q → rowB (sl k').1 q → False
section
variable {H0 H H' : Hp} {rl rl' : Nat → Nat} {v : Nat} {sl : Int → Option Addr × Nat} {vs vs' : Int → List Int}
theorem Fam.keep (F : Fam H0 H rl v sl vs) (hv : H' v = H v) (hk : ∀ q, rl q = 7 → H' q = H q) (hr : ∀ q, H q ≠ none → rl' q = rl q) : Fam H0 H' rl' v sl vs :=
  ⟨F.map.keep hv, fun k h => ⟨(F.row k h).1.keep fun q hq => hk q ((F.row k h).2 q hq), fun q hq => (hr q ((F.row k h).1.lt hq).1).trans ((F.row k h).2 q hq)⟩, F.disj⟩
theorem Fam.congr (F : Fam H0 H rl v sl vs) (h : ∀ k, vs k = vs' k) : Fam H0 H rl v sl vs' := by
  obtain rfl : vs = vs' := funext h
  exact F
/-- One number more at a key. -/
theorem Fam.app {k t : Int} {B : Option Addr} {A : Option Addr} {n c : Nat} {K : Option Addr → Nat → Nat → Hp → Prop} (F : Fam H0 H rl v sl vs) (hx : Ext H0 H) (O : OwnR H0 H rl) (hv : rl v < 7) (hl : (vs k).length < 1000000000000)
    (hA : (if (vs k).isEmpty then some (Value.slice none 0 0) else some (.slice (sl k).1 (vs k).length (sl k).2)) = some (.slice A n c)) (hB : cellsAt H B [.int .i64 t])
    (hk : ∀ A' n' c' H1, (∀ q, rl q ≠ 7 → H q ≠ none → H1 q = H q) → (∀ K2 : Hp → Prop, (∀ H2 rl2 sl2, Fam H0 H2 rl2 v sl2 (fun k' => if k' = k then vs k ++ [t] else vs k') → Ext H0 H2 → OwnR H0 H2 rl2 → (∀ q, H q ≠ none → rl2 q = rl q) → (∀ q, rl q ≠ 7 → q ≠ v → H q ≠ none → H2 q = H q) → K2 H2) →
      putF H1 .i64 (some v) k (.slice A' n' c') K2) → K A' n' c' H1) : appendF H 3 1 8 A n c B 1 K := by
  classical
  have hR : Row H0 H A n c 1 (ints (vs k)) ∧ (∀ q, rowB A q → rl q = 7) ∧ n = (vs k).length ∧ ((vs k).isEmpty = false → A = (sl k).1) ∧ ((vs k).isEmpty = true → A = none) := by
    cases he : (vs k).isEmpty with
    | true =>
      rw [he] at hA
      have e : vs k = [] := List.isEmpty_iff.1 he
      rw [if_pos rfl] at hA
      cases hA
      rw [e]
      exact ⟨Row.nil, fun q ⟨o, z, h⟩ => (by cases h), rfl, fun h => (by cases h), fun _ => rfl⟩
    | false =>
      rw [he, if_neg (by decide)] at hA
      cases hA
      exact ⟨(F.row k he).1, (F.row k he).2, rfl, fun _ => rfl, fun h => (by cases h)⟩
  obtain ⟨R, h7, rfl, hA1, hA2⟩ := hR
  refine Row.append (new := [.int .i64 t]) R hx hB rfl (fun u hu => by obtain rfl := List.mem_singleton.1 hu; rfl) (by omega) (by omega) fun A' c' H1 R' hx' hfr hbl _ => ?_
  have hf : ∀ q, rl q ≠ 7 → H q ≠ none → H1 q = H q := fun q h1 h2 => by
    apply Classical.byContradiction
    intro hne
    rcases (hfr q hne).2 with h | h
    · exact h1 (h7 q h)
    · exact h2 h
  refine hk A' _ c' H1 hf fun K2 hK2 => ?_
  have hvl : H v ≠ none := F.map.live
  have hmap1 := F.map.keep (hf v (by omega) hvl)
  refine hmap1.put fun H2 hm2 ho2 => ?_
  have hvA : ∀ q, rowB A' q → q ≠ v := fun q hq e => by
    subst e
    rcases hbl q hq with h | h
    · have := h7 q h; omega
    · exact hvl h
  have hrl : ∀ q, H q ≠ none → (if H q = none ∧ rowB A' q then 7 else rl q) = rl q := fun q hq => if_neg fun h => hq h.1
  have hrow' : ∀ q, rowB A' q → (if H q = none ∧ rowB A' q then 7 else rl q) = 7 := fun q hq => by
    by_cases h : H q = none ∧ rowB A' q
    · rw [if_pos h]
    · rw [if_neg h]
      rcases hbl q hq with h' | h'
      · exact h7 q h'
      · exact absurd ⟨h', hq⟩ h
  refine hK2 H2 (fun q => if H q = none ∧ rowB A' q then 7 else rl q) (fun k' => if k' = k then (A', c') else sl k') ⟨hm2.congr fun k' => ?_, fun k' he => ?_, fun k1 k2 h1 h2 hne q hq1 hq2 => ?_⟩ (fun q o hq => ?_) (fun q hq => ?_) hrl (fun q h1 h2 h3 => (ho2 q h2).trans (hf q h1 h3))
  · by_cases e : k' = k
    · rw [if_pos e, if_pos e, if_pos e]; simp
    · rw [if_neg e, if_neg e, if_neg e]
  · by_cases e : k' = k
    · simp only [if_pos e]
      refine ⟨?_, fun q hq => hrow' q hq⟩
      rw [ints_append, List.length_append]
      exact R'.keep fun q hq => ho2 q (hvA q hq)
    · simp only [if_neg e] at he ⊢
      obtain ⟨r1, r2⟩ := F.row k' he
      refine ⟨r1.keep fun q hq => ?_, fun q hq => (hrl q (r1.lt hq).1).trans (r2 q hq)⟩
      have hq7 := r2 q hq
      have hqv : q ≠ v := fun e => by subst e; omega
      rw [ho2 q hqv]
      apply Classical.byContradiction
      intro hne
      rcases (hfr q hne).2 with h | h
      · have hke : (vs k).isEmpty = false := by
          cases hh : (vs k).isEmpty with
          | false => rfl
          | true => rw [hA2 hh] at h; obtain ⟨o, z, h⟩ := h; cases h
        rw [hA1 hke] at h
        exact F.disj k' k he hke e q hq h
      · exact (r1.lt hq).1 h
  · have key : ∀ k', k' ≠ k → (vs k').isEmpty = false → ∀ q, rowB A' q → rowB (sl k').1 q → False := fun k' e he q hq1 hq2 => by
      rcases hbl q hq1 with h | h
      · have hke : (vs k).isEmpty = false := by
          cases hh : (vs k).isEmpty with
          | false => rfl
          | true => rw [hA2 hh] at h; obtain ⟨o, z, h⟩ := h; cases h
        rw [hA1 hke] at h
        exact F.disj k' k he hke e q hq2 h
      · exact ((F.row k' he).1.lt hq2).1 h
    by_cases e1 : k1 = k
    · by_cases e2 : k2 = k
      · exact hne (e1.trans e2.symm)
      · simp only [if_pos e1, if_neg e2] at hq1 hq2 h2
        exact key k2 e2 h2 q hq1 hq2
    · by_cases e2 : k2 = k
      · simp only [if_neg e1, if_pos e2] at hq1 hq2 h1
        exact key k1 e1 h1 q hq2 hq1
      · simp only [if_neg e1, if_neg e2] at hq1 hq2 h1 h2
        exact F.disj k1 k2 h1 h2 hne q hq1 hq2
  · rw [ho2 q fun e => by subst e; rw [(O q (by omega)).1] at hq; cases hq]
    exact hx' q o hq
  · have live : ∀ q, H1 q ≠ none → H2 q ≠ none := fun q h => by
      by_cases e : q = v
      · subst e; exact hm2.live
      · rw [ho2 q e]; exact h
    by_cases h : H q = none ∧ rowB A' q
    · exact ⟨hx.none h.1, live q (R'.lt h.2).1⟩
    · simp only [if_neg h] at hq
      refine ⟨(O q hq).1, live q ?_⟩
      by_cases hch : H1 q = H q
      · rw [hch]; exact (O q hq).2
      · exact (R'.lt (hfr q hch).1).1
end
end Go.Proofs.YtibhpoikhkokiaaGreat.Hw

/- Histories: the book of a history. -/
set_option linter.unusedVariables false
set_option linter.unusedSimpArgs false
set_option maxRecDepth 20000
namespace Go.Proofs.YtibhpoikhkokiaaGreat.Hw
open Go Go.Proofs
def natV (n : Nat) : Value := .int .i64 (n : Int)
theorem ne_rl {rl : Nat → Nat} {a b x y : Nat} (h1 : rl a = x) (h2 : rl b = y) (h : x ≠ y) : a ≠ b := fun e => h (by rw [← h1, ← h2, e])
structure BookAt (H : Hp) (g c b v w : Nat) (sl : Int → Option Addr × Nat) (A : Option Addr) (n cp : Nat) (l : List Ev) : Prop where
  cell : ∃ ty, H g = some (.cells #[.slice A n cp, .map (some c), .map (some b), .map (some v), .map (some w)] ty (0, 0))
  evs : SlAt evC H A n l
  cap : n ≤ cp
  commits : MapF H c (fun t => (commitI l t).map natV)
  begins : MapF H b (fun t => (beginI l t).map natV)
  vers : MapF H v (fun k => if (versM l k).isEmpty then none else some (.slice (sl k).1 (versM l k).length (sl k).2))
  row : ∀ k, (versM l k).isEmpty = false → SlAt inC H (sl k).1 (versM l k).length (versM l k) ∧ (versM l k).length ≤ (sl k).2
  lastw : MapF2 H w (fun t i => (lastW l t i).map natV)
/-- The book while it is made. -/
structure OfAt (H0 H : Hp) (rl : Nat → Nat) (g c b v w m : Nat) (iw : Int → Nat) (sl : Int → Option Addr × Nat) (A : Option Addr) (n cp : Nat) (p : List Ev) : Prop where
  ext : Ext H0 H
  own : OwnR H0 H rl
  cell : ∃ ty, H g = some (.cells #[.slice A n cp, .map (some c), .map (some b), .map (some v), .map (some w)] ty (0, 0))
  rg : rl g = 0
  rc : rl c = 1
  rb : rl b = 2
  rv : rl v = 3
  rw' : rl w = 4
  rm : rl m = 5
  ri : ∀ t, begunM p t = true → rl (iw t) = 6
  commits : MapF H c (fun t => (commitI p t).map natV)
  begins : MapF H b (fun t => (beginI p t).map natV)
  fam : Fam H0 H rl v sl (versM p)
  lastw : MapF2 H w (fun t i => (lastW p t i).map natV)
  items : MapF H m (fun t => if begunM p t then some (.map (some (iw t))) else none)
  item : ∀ t, begunM p t = true → MapF H (iw t) (fun k => boolAt (wroteM p t k))
  inj : ∀ t u, begunM p t = true → begunM p u = true → iw t = iw u → t = u
theorem vers_len {l : List Ev} {k : Int} : (versM l k).length ≤ l.length := by
  unfold versM
  exact Nat.le_trans (List.length_filterMap_le _ _) (by simp)
theorem lastI_snocF {q : Ev → Bool} {p : List Ev} {x : Ev} (h : q x = false) : lastI q (p ++ [x]) = lastI q p := by rw [lastI_snoc, h]; rfl
theorem vers_same {p : List Ev} {x : Ev} (h : x.op ≠ 4) (k : Int) : versM (p ++ [x]) k = versM p k := by
  rw [vers_snoc]
  have : (x.op == 4) = false := by simpa using h
  rw [this, Bool.false_and]; simp
section
variable {p : List Ev} {x : Ev}
theorem com_same (h : x.op ≠ 4) (t : Int) : commitI (p ++ [x]) t = commitI p t := lastI_snocF (by unfold isC; simp [h])
theorem beg_same (h : x.op ≠ 1) (t : Int) : beginI (p ++ [x]) t = beginI p t := lastI_snocF (by unfold isB; simp [h])
theorem las_same (h : x.op ≠ 3) (t i : Int) : lastW (p ++ [x]) t i = lastW p t i := lastI_snocF (by unfold isW; simp [h])
theorem wro_same (h : x.op ≠ 3) (t i : Int) : wroteM (p ++ [x]) t i = wroteM p t i := by rw [wrote_snoc]; unfold isW; simp [h]
theorem bgn_same (h : x.op ≠ 1) (t : Int) : begunM (p ++ [x]) t = begunM p t := by rw [begun_snoc]; unfold isB; simp [h]
end
theorem isB_off {t : Int} {x : Ev} (h : t ≠ x.txn) : isB t x = false := by
  unfold isB
  have : (x.txn == t) = false := by simpa using fun e => h (Eq.symm e)
  rw [this, Bool.and_false]
/-- Who has not begun has not written. -/
theorem OkTo.not_begun {l : List Ev} {i : Nat} (h : OkTo l i) {t : Int} (hb : begunM (l.take i) t = false) (k : Int) : wroteM (l.take i) t k = false := by
  cases hw : wroteM (l.take i) t k with
  | false => rfl
  | true =>
    obtain ⟨j, y, hj, hy, hp⟩ := any_take.1 hw
    obtain ⟨o, e1, e2⟩ := isW_iff.1 hp
    have := h.begun hy hj (by rw [o]; decide)
    rw [e1] at this
    obtain ⟨j', y', hj', hy', hp'⟩ := any_take.1 this
    unfold begunM at hb
    rw [any_take.2 ⟨j', y', by omega, hy', hp'⟩] at hb; cases hb
section
variable {H0 H H' : Hp} {rl : Nat → Nat} {g c b v w m : Nat} {iw : Int → Nat} {sl : Int → Option Addr × Nat} {A : Option Addr} {n cp : Nat} {l p : List Ev} {x : Ev} {Q : Value → Hp → Prop}
theorem OwnR.set (O : OwnR H0 H rl) (hk : ∀ q, H q ≠ none → H' q ≠ none) : OwnR H0 H' rl := fun q hq => ⟨(O q hq).1, hk q (O q hq).2⟩
/-- Begin. -/
theorem OfAt.begin {m' : Nat} (O : OfAt H0 H rl g c b v w m iw sl A n cp p) (hb0 : ∀ k, wroteM p x.txn k = false) (hnb : begunM p x.txn = false) (o : x.op = 1) (hm' : H m' = none)
    (hfr : ∀ q, rl q < 8 → q ≠ b → q ≠ m → H' q = H q) (hx : Ext H0 H') (hlive : ∀ q, H q ≠ none → H' q ≠ none) (h1 : MapF H' b (fun t => if t = x.txn then some (natV p.length) else (beginI p t).map natV)) (h2 : MapF H' m' (fun _ => none))
    (h3 : MapF H' m (fun t => if t = x.txn then some (.map (some m')) else if begunM p t then some (.map (some (iw t))) else none)) :
    OfAt H0 H' (fun q => if q = m' then 6 else rl q) g c b v w m (fun t => if t = x.txn then m' else iw t) sl A n cp (p ++ [x]) := by
  have hne : ∀ q, rl q < 8 → q ≠ m' := fun q hq e => (O.own q hq).2 (e ▸ hm')
  have hrl : ∀ q, rl q < 8 → (if q = m' then 6 else rl q) = rl q := fun q hq => if_neg (hne q hq)
  have hrl' : ∀ q, H q ≠ none → (if q = m' then 6 else rl q) = rl q := fun q hq => if_neg (fun e : q = m' => hq (by rw [e]; exact hm'))
  have o4 : x.op ≠ 4 := by rw [o]; decide
  have o3 : x.op ≠ 3 := by rw [o]; decide
  have hbs : ∀ t, begunM (p ++ [x]) t = if t = x.txn then true else begunM p t := fun t => by
    rw [begun_snoc]
    by_cases e : t = x.txn
    · rw [if_pos e, isB_iff.2 ⟨o, e.symm⟩, Bool.or_true]
    · rw [if_neg e]
      have : isB t x = false := isB_off e
      rw [this, Bool.or_false]
  have kp : ∀ q, rl q < 8 → rl q ≠ 2 → rl q ≠ 5 → H' q = H q := fun q h h2 h5 => hfr q h (fun e => h2 (by rw [e, O.rb])) fun e => h5 (by rw [e, O.rm])
  obtain ⟨ty, hc⟩ := O.cell
  refine ⟨hx, fun q hq => ?_, ⟨ty, (kp g (by rw [O.rg]; omega) (by rw [O.rg]; omega) (by rw [O.rg]; omega)).trans hc⟩, (hrl g (by rw [O.rg]; omega)).trans O.rg, (hrl c (by rw [O.rc]; omega)).trans O.rc, (hrl b (by rw [O.rb]; omega)).trans O.rb, (hrl v (by rw [O.rv]; omega)).trans O.rv, (hrl w (by rw [O.rw']; omega)).trans O.rw', (hrl m (by rw [O.rm]; omega)).trans O.rm, fun t ht => ?_, ?_, ?_, ?_, ?_, ?_, fun t ht => ?_, fun t u ht hu e => ?_⟩
  · by_cases e : q = m'
    · subst e
      exact ⟨O.ext.none hm', h2.live⟩
    · simp only [if_neg e] at hq
      exact ⟨(O.own q hq).1, hlive q (O.own q hq).2⟩
  · by_cases e : t = x.txn
    · simp only [if_pos e, if_true]
    · rw [hbs, if_neg e] at ht
      simp only [if_neg e]
      exact (hrl _ (by rw [O.ri t ht]; omega)).trans (O.ri t ht)
  · exact (O.commits.keep (kp c (by rw [O.rc]; omega) (by rw [O.rc]; omega) (by rw [O.rc]; omega))).congr fun t => by rw [com_same o4]
  · exact h1.congr fun t => by
      unfold beginI
      rw [lastI_snoc]
      by_cases e : t = x.txn
      · rw [if_pos e, if_pos (isB_iff.2 ⟨o, e.symm⟩)]; rfl
      · have : isB t x = false := isB_off e
        rw [if_neg e, this]; rfl
  · exact (O.fam.keep (kp v (by rw [O.rv]; omega) (by rw [O.rv]; omega) (by rw [O.rv]; omega)) (fun q hq => kp q (by omega) (by omega) (by omega)) hrl').congr fun k => (vers_same o4 k).symm
  · exact (O.lastw.keep (kp w (by rw [O.rw']; omega) (by rw [O.rw']; omega) (by rw [O.rw']; omega))).congr fun t i => by rw [las_same o3]
  · exact h3.congr fun t => by
      rw [hbs]
      by_cases e : t = x.txn
      · simp only [if_pos e, if_true]
      · simp only [if_neg e]
  · by_cases e : t = x.txn
    · simp only [if_pos e]
      exact h2.congr fun k => by rw [wro_same o3, e, hb0]; rfl
    · rw [hbs, if_neg e] at ht
      simp only [if_neg e]
      have h6 := O.ri t ht
      exact ((O.item t ht).keep (kp _ (by omega) (by omega) (by omega))).congr fun k => by rw [wro_same o3]
  · have hm6 : ∀ t, begunM p t = true → iw t ≠ m' := fun t ht => hne _ (by rw [O.ri t ht]; omega)
    by_cases e1 : t = x.txn
    · by_cases e2 : u = x.txn
      · rw [e1, e2]
      · rw [hbs, if_neg e2] at hu
        simp only [if_pos e1, if_neg e2] at e
        exact absurd e.symm (hm6 u hu)
    · by_cases e2 : u = x.txn
      · rw [hbs, if_neg e1] at ht
        simp only [if_neg e1, if_pos e2] at e
        exact absurd e (hm6 t ht)
      · rw [hbs, if_neg e1] at ht
        rw [hbs, if_neg e2] at hu
        simp only [if_neg e1, if_neg e2] at e
        exact O.inj t u ht hu e
/-- A write. -/
theorem OfAt.write (O : OfAt H0 H rl g c b v w m iw sl A n cp p) (hbg : begunM p x.txn = true) (o : x.op = 3)
    (hfr : ∀ q, rl q < 8 → q ≠ iw x.txn → q ≠ w → H' q = H q) (hx : Ext H0 H') (hlive : ∀ q, H q ≠ none → H' q ≠ none) (h1 : MapF H' (iw x.txn) (fun k => if k = x.item then some (.bool true) else boolAt (wroteM p x.txn k)))
    (h2 : MapF2 H' w (fun t i => if t = x.txn ∧ i = x.item then some (natV p.length) else (lastW p t i).map natV)) : OfAt H0 H' rl g c b v w m iw sl A n cp (p ++ [x]) := by
  have o4 : x.op ≠ 4 := by rw [o]; decide
  have o1 : x.op ≠ 1 := by rw [o]; decide
  have kp : ∀ q, rl q < 8 → rl q ≠ 6 → rl q ≠ 4 → H' q = H q := fun q h h2 h5 => hfr q h (fun e => h2 (by rw [e, O.ri _ hbg])) fun e => h5 (by rw [e, O.rw'])
  have hWs : ∀ t k, isW t k x = decide (t = x.txn ∧ k = x.item) := fun t k => by
    by_cases h : t = x.txn ∧ k = x.item
    · rw [isW_iff.2 ⟨o, h.1.symm, h.2.symm⟩, decide_eq_true h]
    · rw [decide_eq_false h]
      cases hh : isW t k x with
      | false => rfl
      | true => have := isW_iff.1 hh; exact absurd ⟨this.2.1.symm, this.2.2.symm⟩ h
  obtain ⟨ty, hc⟩ := O.cell
  refine ⟨hx, O.own.set hlive, ⟨ty, (kp g (by rw [O.rg]; omega) (by rw [O.rg]; omega) (by rw [O.rg]; omega)).trans hc⟩, O.rg, O.rc, O.rb, O.rv, O.rw', O.rm, fun t ht => O.ri t (by rwa [bgn_same o1] at ht), ?_, ?_, ?_, ?_, ?_, fun t ht => ?_, fun t u ht hu e => O.inj t u (by rwa [bgn_same o1] at ht) (by rwa [bgn_same o1] at hu) e⟩
  · exact (O.commits.keep (kp c (by rw [O.rc]; omega) (by rw [O.rc]; omega) (by rw [O.rc]; omega))).congr fun t => by rw [com_same o4]
  · exact (O.begins.keep (kp b (by rw [O.rb]; omega) (by rw [O.rb]; omega) (by rw [O.rb]; omega))).congr fun t => by rw [beg_same o1]
  · exact (O.fam.keep (kp v (by rw [O.rv]; omega) (by rw [O.rv]; omega) (by rw [O.rv]; omega)) (fun q hq => kp q (by omega) (by omega) (by omega)) fun q _ => rfl).congr fun k => (vers_same o4 k).symm
  · exact h2.congr fun t i => by
      unfold lastW
      rw [lastI_snoc, hWs]
      by_cases h : t = x.txn ∧ i = x.item
      · rw [if_pos h, if_pos (decide_eq_true h)]; rfl
      · rw [if_neg h, if_neg (by simpa using h)]
  · exact (O.items.keep (kp m (by rw [O.rm]; omega) (by rw [O.rm]; omega) (by rw [O.rm]; omega))).congr fun t => by rw [bgn_same o1]
  · rw [bgn_same o1] at ht
    by_cases e : t = x.txn
    · subst e
      exact h1.congr fun k => by
        rw [wrote_snoc, hWs]
        by_cases h : k = x.item
        · rw [if_pos h, h]; simp [boolAt]
        · rw [if_neg h]; simp [h]
    · have h6 := O.ri t ht
      have hne : iw t ≠ iw x.txn := fun h => e (O.inj t _ ht hbg h)
      exact ((O.item t ht).keep (hfr _ (by omega) hne (ne_rl h6 O.rw' (by decide)))).congr fun k => by
        rw [wrote_snoc, hWs, decide_eq_false (fun h => e h.1), Bool.or_false]
/-- What says nothing in the book. -/
theorem OfAt.skip (O : OfAt H0 H rl g c b v w m iw sl A n cp p) (o1 : x.op ≠ 1) (o3 : x.op ≠ 3) (o4 : x.op ≠ 4) : OfAt H0 H rl g c b v w m iw sl A n cp (p ++ [x]) :=
  ⟨O.ext, O.own, O.cell, O.rg, O.rc, O.rb, O.rv, O.rw', O.rm, fun t ht => O.ri t (by rwa [bgn_same o1] at ht), O.commits.congr fun t => by rw [com_same o4], O.begins.congr fun t => by rw [beg_same o1], O.fam.congr fun k => (vers_same o4 k).symm, O.lastw.congr fun t i => by rw [las_same o3], O.items.congr fun t => by rw [bgn_same o1], fun t ht => (O.item t (by rwa [bgn_same o1] at ht)).congr fun k => by rw [wro_same o3], fun t u ht hu e => O.inj t u (by rwa [bgn_same o1] at ht) (by rwa [bgn_same o1] at hu) e⟩
end
end Go.Proofs.YtibhpoikhkokiaaGreat.Hw

/- Histories: the book is made. -/
set_option linter.unusedVariables false
set_option linter.unusedSimpArgs false
set_option maxRecDepth 20000
namespace Go.Proofs.YtibhpoikhkokiaaGreat.Hw
open Go Go.Proofs
section
variable {H0 H H' : Hp} {rl : Nat → Nat} {g c b v w m : Nat} {iw : Int → Nat} {sl : Int → Option Addr × Nat} {A : Option Addr} {n cp : Nat} {l p : List Ev} {x : Ev} {Q : Value → Hp → Prop} {vs : Int → List Int}
theorem Fam.look {k : Int} {K : Value → Bool → Prop} (F : Fam H0 H rl v sl vs) (hk : ∀ A n c b, (if (vs k).isEmpty then some (Value.slice none 0 0) else some (.slice (sl k).1 (vs k).length (sl k).2)) = some (.slice A n c) → K (.slice A n c) b) : lookF H .i64 (some v) k (.slice none 0 0) K := by
  refine F.map.look ?_
  cases he : (vs k).isEmpty with
  | true => rw [if_pos rfl]; exact hk none 0 0 _ (by rw [he, if_pos rfl])
  | false => rw [if_neg (by decide)]; exact hk _ _ _ _ (by rw [he, if_neg (by decide)])
theorem Fam.grow (F : Fam H0 H rl v sl vs) (hx : Ext H H') : Fam H0 H' rl v sl vs := by
  have lv : ∀ q, H q ≠ none → H' q = H q := fun q hq => by
    cases h : H q with
    | none => exact absurd h hq
    | some o => exact hx q o h
  refine ⟨F.map.keep (lv v F.map.live), fun k h => ⟨(F.row k h).1.keep fun q hq => lv q ((F.row k h).1.lt hq).1, (F.row k h).2⟩, F.disj⟩
theorem Row.cell {A : Option Addr} {n c : Nat} {vals : List Value} (R : Row H0 H A n c 1 vals) {q : Nat} (hq : rowB A q) : ∃ cs ty, H q = some (.cells cs ty (0, 0)) := by
  obtain ⟨_, _, h | ⟨b, cs, ty, rfl, hb, _⟩⟩ := R
  · obtain ⟨o, z, h'⟩ := hq; rw [h.1] at h'; cases h'
  · obtain ⟨o, z, h'⟩ := hq
    cases h'
    exact ⟨_, _, hb⟩
theorem Fam.off {i : Nat} (F : Fam H0 H rl v sl vs) (hi : ∀ cs ty z, H i ≠ some (.cells cs ty z)) (hv : v ≠ i) (hk : ∀ q, q ≠ i → H' q = H q) : Fam H0 H' rl v sl vs :=
  ⟨F.map.keep (hk v hv), fun k h => ⟨(F.row k h).1.keep fun q hq => hk q fun e => by
    subst e
    obtain ⟨cs, ty, h1⟩ := (F.row k h).1.cell hq
    exact hi _ _ _ h1, (F.row k h).2⟩, F.disj⟩
theorem OwnR.grow (O : OwnR H0 H rl) (hx : Ext H H') : OwnR H0 H' rl := O.set fun q hq => by
  cases h : H q with
  | none => exact absurd h hq
  | some o => rw [hx q o h]; simp
/-- A commit: what holds when the versions have been noted. -/
theorem OfAt.commit {H2 : Hp} {rl2 : Nat → Nat} {sl2 : Int → Option Addr × Nat} (O : OfAt H0 H rl g c b v w m iw sl A n cp p) (o : x.op = 4) (hx : Ext H0 H2) (hO : OwnR H0 H2 rl2) (hr : ∀ q, H q ≠ none → rl2 q = rl q)
    (h1 : MapF H2 c (fun t => if t = x.txn then some (natV p.length) else (commitI p t).map natV)) (hF : Fam H0 H2 rl2 v sl2 (versM (p ++ [x]))) (hfr : ∀ q, rl q < 7 → q ≠ c → q ≠ v → H2 q = H q) : OfAt H0 H2 rl2 g c b v w m iw sl2 A n cp (p ++ [x]) := by
  have o1 : x.op ≠ 1 := by rw [o]; decide
  have o3 : x.op ≠ 3 := by rw [o]; decide
  have kp : ∀ q, rl q < 7 → rl q ≠ 1 → rl q ≠ 3 → H2 q = H q := fun q h h2 h5 => hfr q h (fun e => h2 (by rw [e, O.rc])) fun e => h5 (by rw [e, O.rv])
  have hr' : ∀ q, rl q < 8 → rl2 q = rl q := fun q hq => hr q (O.own q hq).2
  obtain ⟨ty, hc⟩ := O.cell
  refine ⟨hx, hO, ⟨ty, (kp g (by rw [O.rg]; omega) (by rw [O.rg]; omega) (by rw [O.rg]; omega)).trans hc⟩, (hr' g (by rw [O.rg]; omega)).trans O.rg, (hr' c (by rw [O.rc]; omega)).trans O.rc, (hr' b (by rw [O.rb]; omega)).trans O.rb, (hr' v (by rw [O.rv]; omega)).trans O.rv, (hr' w (by rw [O.rw']; omega)).trans O.rw', (hr' m (by rw [O.rm]; omega)).trans O.rm, fun t ht => ?_, ?_, ?_, hF, ?_, ?_, fun t ht => ?_, fun t u ht hu e => O.inj t u (by rwa [bgn_same o1] at ht) (by rwa [bgn_same o1] at hu) e⟩
  · rw [bgn_same o1] at ht
    exact (hr' _ (by rw [O.ri t ht]; omega)).trans (O.ri t ht)
  · exact h1.congr fun t => by
      unfold commitI
      rw [lastI_snoc]
      by_cases e : t = x.txn
      · rw [if_pos e, if_pos (isC_iff.2 ⟨o, e.symm⟩)]; rfl
      · have : isC t x = false := by
          unfold isC
          have : (x.txn == t) = false := by simpa using fun h => e (Eq.symm h)
          rw [this, Bool.and_false]
        rw [if_neg e, this]; rfl
  · exact (O.begins.keep (kp b (by rw [O.rb]; omega) (by rw [O.rb]; omega) (by rw [O.rb]; omega))).congr fun t => by rw [beg_same o1]
  · exact (O.lastw.keep (kp w (by rw [O.rw']; omega) (by rw [O.rw']; omega) (by rw [O.rw']; omega))).congr fun t i => by rw [las_same o3]
  · exact (O.items.keep (kp m (by rw [O.rm]; omega) (by rw [O.rm]; omega) (by rw [O.rm]; omega))).congr fun t => by rw [bgn_same o1]
  · rw [bgn_same o1] at ht
    have h6 := O.ri t ht
    exact ((O.item t ht).keep (kp _ (by omega) (by omega) (by omega))).congr fun k => by rw [wro_same o3]
/-- The book behind the loop. -/
theorem OfAt.book (O : OfAt H0 H rl g c b v w m iw sl A n cp l) (hA : SlAt evC H0 A n l) (hc : n ≤ cp) : BookAt H g c b v w sl A n cp l :=
  ⟨O.cell, hA.ext O.ext, hc, O.commits, O.begins, O.fam.map, fun k hk => ⟨(O.fam.row k hk).1.slI (Nat.lt_of_le_of_lt vers_len hA.small), (O.fam.row k hk).1.2.1⟩, O.lastw⟩
theorem c38 (hA : SlAt evC H A n l) (hcp : n ≤ cp) (hok : OkTo l l.length) (hs : l.length ≤ 2000) (hq : ∀ g c b v w sl H', Ext H H' → BookAt H' g c b v w sl A n cp l → Q (.pointer (some ⟨g, 0, none⟩)) H') : HCalls Tryz.prog 38 [.slice A n cp] H Q := by
  refine f38.ok _ _ _ ?_
  unfold f38
  obtain rfl := hA.len
  have hlt := hA.lt
  refine MapF.new fun c H2 hc0 x2 o2 Mc => MapF.new fun b H4 hb0 x4 o4 Mb => MapF.new fun v H6 hv0 x6 o6 Mv => MapF2.new fun w H8 hw0 x8 o8 Mw => fun g hg0 => ?_
  generalize hH10 : upd g (Obj.cells _ 62 _) H8 = H10
  have eg : H10 g = some (.cells #[.slice A l.length cp, .map (some c), .map (some b), .map (some v), .map (some w)] 62 (0, 0)) := by subst hH10; exact upd_at
  have x10 : Ext H8 H10 := by subst hH10; exact Ext.new hg0
  refine MapF.new fun m H12 hm0 x12 o12 Mm => ?_
  have lv : ∀ {q} {X Y : Hp}, Ext X Y → X q ≠ none → Y q = X q := fun {q X Y} hx hb => by
    cases h : X q with
    | none => exact absurd h hb
    | some o => exact hx q o h
  have fne : ∀ {a d : Nat} {X Y : Hp}, Ext X Y → X a ≠ none → Y d = none → d ≠ a := fun {a d X Y} hx ha hd e => by
    subst e
    rw [lv hx ha] at hd; exact ha hd
  have lc := Mc.live
  have lb := Mb.live
  have lw := Mv.live
  have l3 := Mw.live
  have lg : H10 g ≠ none := by rw [eg]; simp
  have X1 : Ext H4 H8 := x6.trans x8
  have dbc : b ≠ c := fne (Ext.refl _) lc hb0
  have dvc : v ≠ c := fne x4 lc hv0
  have dvb : v ≠ b := fne (Ext.refl _) lb hv0
  have dwc : w ≠ c := fne (x4.trans x6) lc hw0
  have dwb : w ≠ b := fne x6 lb hw0
  have dwv : w ≠ v := fne (Ext.refl _) lw hw0
  have dgc : g ≠ c := fne (x4.trans X1) lc hg0
  have dgb : g ≠ b := fne X1 lb hg0
  have dgv : g ≠ v := fne x8 lw hg0
  have dgw : g ≠ w := fne (Ext.refl _) l3 hg0
  have dmc : m ≠ c := fne ((x4.trans X1).trans x10) lc hm0
  have dmb : m ≠ b := fne (X1.trans x10) lb hm0
  have dmv : m ≠ v := fne (x8.trans x10) lw hm0
  have dmw : m ≠ w := fne x10 l3 hm0
  have dmg : m ≠ g := fne (Ext.refl _) lg hm0
  have hx12 : Ext H H12 := ((((x2.trans x4).trans x6).trans x8).trans x10).trans x12
  have O0 : OfAt H H12 (fun q => if q = c then 1 else if q = b then 2 else if q = v then 3 else if q = w then 4 else if q = g then 0 else if q = m then 5 else 99) g c b v w m (fun _ => 0) (fun _ => (none, 0)) A l.length cp [] := by
    refine ⟨hx12, fun q hq => ?_, ⟨62, x12 _ _ eg⟩, ?_, ?_, ?_, ?_, ?_, ?_, fun t ht => (by cases ht), ?_, ?_, ⟨?_, fun k hk => (by cases hk), fun k k' hk => (by cases hk)⟩, ?_, ?_, fun t ht => (by cases ht), fun t u ht => (by cases ht)⟩
    · by_cases e1 : q = c
      · rw [e1]; exact ⟨hc0, by rw [lv ((((x4.trans x6).trans x8).trans x10).trans x12) lc]; exact lc⟩
      · by_cases e2 : q = b
        · rw [e2]; exact ⟨x2.none hb0, by rw [lv (((x6.trans x8).trans x10).trans x12) lb]; exact lb⟩
        · by_cases e3 : q = v
          · rw [e3]; exact ⟨(x2.trans x4).none hv0, by rw [lv ((x8.trans x10).trans x12) lw]; exact lw⟩
          · by_cases e4 : q = w
            · rw [e4]; exact ⟨((x2.trans x4).trans x6).none hw0, by rw [lv (x10.trans x12) l3]; exact l3⟩
            · by_cases e5 : q = g
              · rw [e5]; exact ⟨(((x2.trans x4).trans x6).trans x8).none hg0, by rw [lv x12 lg]; exact lg⟩
              · by_cases e6 : q = m
                · rw [e6]; exact ⟨((((x2.trans x4).trans x6).trans x8).trans x10).none hm0, Mm.live⟩
                · simp only [if_neg e1, if_neg e2, if_neg e3, if_neg e4, if_neg e5, if_neg e6] at hq
                  omega
    · simp only [if_neg dgc, if_neg dgb, if_neg dgv, if_neg dgw, if_true]
    · simp only [if_true]
    · simp only [if_neg dbc, if_true]
    · simp only [if_neg dvc, if_neg dvb, if_true]
    · simp only [if_neg dwc, if_neg dwb, if_neg dwv, if_true]
    · simp only [if_neg dmc, if_neg dmb, if_neg dmv, if_neg dmw, if_neg dmg, if_true]
    · exact (Mc.keep (lv ((((x4.trans x6).trans x8).trans x10).trans x12) lc)).congr fun t => rfl
    · exact (Mb.keep (lv (((x6.trans x8).trans x10).trans x12) lb)).congr fun t => rfl
    · exact (Mv.keep (lv ((x8.trans x10).trans x12) lw)).congr fun t => rfl
    · exact (Mw.keep (lv (x10.trans x12) l3)).congr fun t i => rfl
    · exact Mm.congr fun t => rfl
  refine scan hlt (fun i H' => ∃ rl iw sl, OfAt H H' rl g c b v w m iw sl A l.length cp (l.take i)) ⟨_, _, _, O0⟩ (fun i H14 next hi hI hnext => ?_) (fun H14 next hI => ?_)
  rotate_left
  · obtain ⟨rl, iw, sl, O⟩ := hI
    rw [List.take_length] at O
    dsimp only
    exact cndF (decide_eq_false (by omega)) (hq _ _ _ _ _ _ _ O.ext (O.book hA hcp))
  obtain ⟨rl, iw, sl, O⟩ := hI
  obtain ⟨x, hx⟩ := get_of hi
  have hev := hok i x hi hx
  obtain ⟨q1, q2, q3, q4⟩ := ev_parts hev
  have hpl : (l.take i).length = i := by rw [List.length_take]; omega
  dsimp only
  refine cndT (decide_eq_true (by omega)) (jn_intro (fun J => ∀ H' rl' iw' sl', OfAt H H' rl' g c b v w m iw' sl' A l.length cp (l.take i ++ [x]) → J H') (fun H' rl' iw' sl' O' => ⟨rfl, hnext H' ⟨rl', iw', sl', by rw [take_snoc hx]; exact O'⟩⟩) fun J hJ => ⟨by omega, by omega, rd_ev (hA.ext O.ext) hx fun q o _ k1 k2 k3 k4 k5 => ⟨x.op, by simpa using k1, x.txn, by simpa using k2, x.item, by simpa using k3, x.frm, by simpa using k4, x.stmt, by simpa using k5, ?_⟩⟩)
  obtain ⟨tg, hcg⟩ := O.cell
  have hcl : ∀ {X : Hp}, X g = H14 g → ∀ k, cl X g k = ([Value.slice A l.length cp, .map (some c), .map (some b), .map (some v), .map (some w)])[k]? := fun {X} hX k => cl_cells (cs := [.slice A l.length cp, .map (some c), .map (some b), .map (some v), .map (some w)]) (hX.trans hcg) k
  have ngb : g ≠ b := ne_rl O.rg O.rb (by decide)
  refine cndI (fun o1 => ?_) fun o1 => cndI (fun o3 => ?_) fun o3 => cndI (fun o4 => ?_) fun o4 => ?_
  · have o1 : x.op = 1 := by simpa using o1
    have hnb : begunM (l.take i) x.txn = false := by
      cases h : begunM (l.take i) x.txn with
      | false => rfl
      | true => exact absurd o1 (q3.1 h)
    refine ⟨some b, hcl rfl 2, O.begins.put fun H23 M23 f23 => MapF.new fun m' H25 hm' x25 f25 M25 => ?_⟩
    have lb14 : H14 m ≠ none := O.items.live
    have mb : m ≠ b := ne_rl O.rm O.rb (by decide)
    have l23 : ∀ q, H14 q ≠ none → H23 q ≠ none := fun q hq => by
      by_cases e : q = b
      · subst e; exact M23.live
      · rw [f23 q e]; exact hq
    have hm'14 : H14 m' = none := by
      cases h : H14 m' with
      | none => rfl
      | some o => exact absurd hm' (l23 m' (by rw [h]; simp))
    have items25 := (O.items.keep (f23 m mb)).keep (lv x25 (l23 m lb14))
    refine items25.put fun H26 M26 f26 => hJ H26 _ _ _ (O.begin (m' := m') (fun k => (hok.mono (Nat.le_of_lt hi)).not_begun hnb k) hnb o1 hm'14 (fun q hq h1 h2 => ?_) (fun q o hq => ?_) (fun q hq => ?_) ?_ ?_ M26)
    · have hl := (O.own q hq).2
      exact (f26 q h2).trans ((lv x25 (l23 q hl)).trans (f23 q h1))
    · have e1 := O.ext q o hq
      have nb : q ≠ b := fun e => by rw [e, (O.own b (by rw [O.rb]; omega)).1] at hq; cases hq
      have nm : q ≠ m := fun e => by rw [e, (O.own m (by rw [O.rm]; omega)).1] at hq; cases hq
      rw [f26 q nm, lv x25 (l23 q (by rw [e1]; simp)), f23 q nb]; exact e1
    · by_cases e : q = m
      · subst e; exact M26.live
      · rw [f26 q e, lv x25 (l23 q hq)]; exact l23 q hq
    · have e1 : H26 b = H25 b := f26 b mb.symm
      have e2 : H25 b = H23 b := lv x25 M23.live
      rw [hpl]
      exact M23.keep (e1.trans e2)
    · have : m' ≠ m := fun e => lb14 (e ▸ hm'14)
      exact M25.keep (f26 m' this)
  · have o3 : x.op = 3 := by simpa using o3
    have hbg := q3.2 (by rw [o3]; decide)
    refine O.items.look ?_
    rw [hbg]
    refine ⟨some (iw x.txn), rfl, (O.item _ hbg).put fun H30 M30 f30 => ?_⟩
    have ri := O.ri _ hbg
    refine ⟨some w, hcl (f30 g (ne_rl O.rg ri (by decide))) 4, (O.lastw.keep (f30 w (ne_rl O.rw' ri (by decide)))).put fun H32 M32 f32 => hJ H32 _ _ _ (O.write hbg o3 (fun q hq h1 h2 => (f32 q h2).trans (f30 q h1)) (fun q o hq => ?_) (fun q hq => ?_) ?_ ?_)⟩
    · have e1 := O.ext q o hq
      have nb : q ≠ iw x.txn := fun e => by rw [e, (O.own _ (by rw [ri]; omega)).1] at hq; cases hq
      have nm : q ≠ w := fun e => by rw [e, (O.own w (by rw [O.rw']; omega)).1] at hq; cases hq
      rw [f32 q nm, f30 q nb]; exact e1
    · by_cases e : q = w
      · subst e; exact M32.live
      · rw [f32 q e]
        by_cases e2 : q = iw x.txn
        · subst e2; exact M30.live
        · rw [f30 q e2]; exact hq
    · exact (M30.keep (f32 _ (ne_rl ri O.rw' (by decide))))
    · rw [hpl]; exact M32
  · have o4 : x.op = 4 := by simpa using o4
    have hbg := q3.2 (by rw [o4]; decide)
    have ri := O.ri _ hbg
    refine ⟨some c, hcl rfl 1, O.commits.put fun H34 M34 f34 => ?_⟩
    have items34 := O.items.keep (f34 m (ne_rl O.rm O.rc (by decide)))
    refine items34.look ?_
    rw [hbg]
    have it34 := (O.item _ hbg).keep (f34 _ (ne_rl ri O.rc (by decide)))
    obtain ⟨kvI, hmI, hkI0⟩ := it34
    have hkI : ∀ k, kvGet kvI k = boolAt (wroteM (l.take i) x.txn k) := hkI0
    clear hkI0
    have l34 : ∀ q, H14 q ≠ none → H34 q ≠ none := fun q hq => by
      by_cases e : q = c
      · subst e; exact M34.live
      · rw [f34 q e]; exact hq
    have hx34 : Ext H H34 := fun q o hq => by
      rw [f34 q fun e => by rw [e, (O.own c (by rw [O.rc]; omega)).1] at hq; cases hq]; exact O.ext q o hq
    refine ⟨some (iw x.txn), rfl, range_to hmI fun i38 H39 hi38 x39 hI39 f39 => ?_⟩
    have hib : i38 ≠ iw x.txn := fun e => l34 _ (O.item _ hbg).live (e ▸ hi38)
    have F34 : Fam H H34 rl v sl (versM (l.take i)) := O.fam.keep (f34 v (ne_rl O.rv O.rc (by decide))) (fun q hq => f34 q (ne_rl hq O.rc (by decide))) fun q _ => rfl
    have hkeys : ∀ k, k ∈ kvI.map (·.1) ↔ wroteM (l.take i) x.txn k = true := fun k => by
      have h1 := hkI k
      constructor
      · intro hk
        obtain ⟨pr, hp, rfl⟩ := List.mem_map.1 hk
        rw [(kvGet_mem hmI.keys).2 hp] at h1
        cases hw : wroteM (l.take i) x.txn pr.1 with
        | true => rfl
        | false => rw [hw] at h1; cases h1
      · intro hw
        rw [hw] at h1
        exact List.mem_map.2 ⟨_, (kvGet_mem hmI.keys).1 h1, rfl⟩
    refine ⟨fun n s H' => ∃ left rl2 sl2, n = left.length ∧ IterAt .i64 H' i38 (iw x.txn) kvI left ∧ Fam H H' rl2 v sl2 (fun k => if k ∈ left then versM (l.take i) k else versM (l.take i) k ++ if wroteM (l.take i) x.txn k then [x.txn] else []) ∧ Ext H H' ∧ OwnR H H' rl2 ∧ (∀ q, H34 q ≠ none → rl2 q = rl q) ∧ (∀ q, rl q ≠ 7 → q ≠ v → H34 q ≠ none → H' q = H34 q) ∧ (∀ q, H34 q ≠ none → H' q ≠ none) ∧ (∀ k ∈ left, wroteM (l.take i) x.txn k = true) ∧ 8 ≤ rl2 i38,
      ⟨_, kvI.map (·.1), rl, sl, rfl, hI39, (F34.grow x39).congr fun k => ?_, hx34.trans x39, (O.own.set l34).grow x39, fun q _ => rfl, fun q _ _ hq => f39 q (fun e => hq (e ▸ hi38)), fun q hq => by rw [f39 q (fun e => hq (e ▸ hi38))]; exact hq, fun k hk => (hkeys k).1 hk, ?_⟩, ?_⟩
    rotate_left
    · by_cases h8 : 8 ≤ rl i38
      · exact h8
      · exact absurd hi38 (l34 i38 (O.own i38 (by omega)).2)
    rotate_left
    · by_cases hk : k ∈ kvI.map (·.1)
      · rw [if_pos hk]
      · rw [if_neg hk]
        have : wroteM (l.take i) x.txn k = false := by
          cases hw : wroteM (l.take i) x.txn k with
          | false => rfl
          | true => exact absurd ((hkeys k).2 hw) hk
        rw [this]; simp
    rintro n s H41 ⟨left, rl2, sl2, rfl, hI, F, hxx, hO2, hr2, hfr, hlive, hleft, hi8⟩
    have lfg : H34 g ≠ none := l34 g (by rw [hcg]; simp)
    have eg41 : H41 g = H14 g := (hfr g (by rw [O.rg]; decide) (ne_rl O.rg O.rv (by decide)) lfg).trans (f34 g (ne_rl O.rg O.rc (by decide)))
    have rv2 : rl2 v = 3 := (hr2 v (l34 v O.fam.map.live)).trans O.rv
    refine jn_intro (fun J => ∀ H' left' rl3 sl3, left'.length < left.length → IterAt .i64 H' i38 (iw x.txn) kvI left' → Fam H H' rl3 v sl3 (fun k => if k ∈ left' then versM (l.take i) k else versM (l.take i) k ++ if wroteM (l.take i) x.txn k then [x.txn] else []) → Ext H H' → OwnR H H' rl3 → (∀ q, H34 q ≠ none → rl3 q = rl q) → (∀ q, rl q ≠ 7 → q ≠ v → H34 q ≠ none → H' q = H34 q) → (∀ q, H34 q ≠ none → H' q ≠ none) → (∀ k ∈ left', wroteM (l.take i) x.txn k = true) → 8 ≤ rl3 i38 → J H')
      (fun H' left' rl3 sl3 h0 h1 h2 h3 h4 h5 h6 h7 h8 h9 => ⟨rfl, _, h0, left', rl3, sl3, rfl, h1, h2, h3, h4, h5, h6, h7, h8, h9⟩) fun J74 hJ74 => ?_
    unfold jn
    refine next_to hI hib (fun hl => cndF rfl ?_) (fun k u H45 hku hkl hI45 hE f45 => ?_)
    · subst hl
      refine hJ H41 rl2 iw sl2 (O.commit o4 hxx hO2 (fun q hq => hr2 q (l34 q hq)) ?_ (F.congr fun k => ?_) fun q hq h1 h2 => ?_)
      · rw [hpl]
        exact M34.keep (hfr c (by rw [O.rc]; decide) (ne_rl O.rc O.rv (by decide)) M34.live)
      · rw [if_neg (by simp), vers_snoc, o4]; rfl
      · exact (hfr q (by omega) h2 (l34 q (O.own q (by omega)).2)).trans (f34 q h1)
    · have hw : wroteM (l.take i) x.txn k = true := hleft k hkl
      have hu : u = .bool true := by
        have := (kvGet_mem hmI.keys).2 hku
        rw [hkI k, hw] at this
        cases this; rfl
      subst hu
      have ni : ∀ q, H34 q ≠ none → q ≠ i38 := fun q hq e => hq (e ▸ hi38)
      have F45 := F.off (i := i38) (by
        obtain ⟨es, clock, since, seen, c0, hh, _⟩ := hI
        intro cs ty z h; rw [hh] at h; cases h) (ni v (l34 v O.fam.map.live)) f45
      have l45 : ∀ q, H41 q ≠ none → H45 q ≠ none := fun q hq => by
        by_cases e : q = i38
        · obtain ⟨es, clock, since, seen, c0, hh, _⟩ := hI45
          rw [e, hh]; simp
        · rw [f45 q e]; exact hq
      have x45 : Ext H H45 := fun q o hq => by
        rw [f45 q (ni q (by rw [hx34 q o hq]; simp))]; exact hxx q o hq
      have O45 := hO2.set l45
      have eg45 : H45 g = H14 g := (f45 g (ni g lfg)).trans eg41
      have hlt' : (left.filter fun y => decide (y ≠ k)).length < left.length := by
        have h1 := List.length_filter_le (fun y => decide (y ≠ k)) left
        by_cases e : (left.filter fun y => decide (y ≠ k)).length = left.length
        · have := List.length_filter_eq_length_iff.1 e k hkl
          simp at this
        · omega
      have lv45 : (versM (l.take i) k).length < 1000000000000 := by
        have h1 := vers_len (l := l.take i) (k := k)
        rw [List.length_take] at h1; omega
      have push : ∀ g60, H45 g60 = none → ∀ A' n' c', (if ((fun k => if k ∈ left then versM (l.take i) k else versM (l.take i) k ++ if wroteM (l.take i) x.txn k then [x.txn] else []) k).isEmpty then some (Value.slice none 0 0) else some (.slice (sl2 k).1 ((fun k => if k ∈ left then versM (l.take i) k else versM (l.take i) k ++ if wroteM (l.take i) x.txn k then [x.txn] else []) k).length (sl2 k).2)) = some (.slice A' n' c') →
          appendF (upd g60 (Obj.cells [Value.int .i64 x.txn].toArray 3 (0, 0)) H45) 3 1 8 A' n' c' (some ⟨g60, 0, none⟩) 1 fun A'' n'' c'' H63 => H63 g = (upd g60 (Obj.cells [Value.int .i64 x.txn].toArray 3 (0, 0)) H45) g ∧ putF H63 .i64 (some v) k (.slice A'' n'' c'') fun H64 => J74 H64 := by
        intro g60 hg60 A' n' c' hA'
        have x61 : Ext H45 (upd g60 (Obj.cells [Value.int .i64 x.txn].toArray 3 (0, 0)) H45) := Ext.new hg60
        have e61 : (upd g60 (Obj.cells [Value.int .i64 x.txn].toArray 3 (0, 0)) H45) g60 = some (.cells [Value.int .i64 x.txn].toArray 3 (0, 0)) := upd_at
        generalize upd g60 (Obj.cells [Value.int .i64 x.txn].toArray 3 (0, 0)) H45 = H61 at x61 e61 ⊢
        have l61 : ∀ q, H45 q ≠ none → H61 q = H45 q := fun q hq => lv x61 hq
        refine Fam.app (t := x.txn) (F45.grow x61) (x45.trans x61) (O45.grow x61) (by omega) (by simp only [if_pos hkl]; exact lv45) hA' (.inr ⟨g60, 0, rfl, fun j u hu => ?_⟩) fun A'' n'' c'' H63 f63 hput => ⟨f63 g ?_ ?_, hput _ fun H64 rl3 sl3 F64 x64 O64 hr64 f64 => ?_⟩
        · rw [cl_cells e61, Nat.zero_add]; exact hu
        · rw [hr2 g lfg, O.rg]; decide
        · rw [l61 g (l45 g (hlive g lfg)), eg45, hcg]; simp
        · have li : H45 i38 ≠ none := by obtain ⟨es, clock, since, seen, c0, hh, _⟩ := hI45; rw [hh]; simp
          have liw : H34 (iw x.txn) ≠ none := l34 _ (O.item _ hbg).live
          have r6 : rl2 (iw x.txn) = 6 := (hr2 _ liw).trans ri
          have viw : iw x.txn ≠ v := ne_rl ri O.rv (by decide)
          have liw45 := l45 _ (hlive _ liw)
          have niv : i38 ≠ v := (ni v (l34 v O.fam.map.live)).symm
          refine hJ74 H64 _ rl3 sl3 hlt' (hI45.ext ((f64 i38 (by omega) niv (by rw [l61 _ li]; exact li)).trans (l61 _ li)) ((f64 _ (by omega) viw (by rw [l61 _ liw45]; exact liw45)).trans (l61 _ liw45))) (F64.congr fun k' => ?_) x64 O64 (fun q hq => ?_) (fun q h1 h2 h3 => ?_) (fun q hq => ?_) (fun k' hk' => hleft k' (List.mem_filter.1 hk').1) ?_
          · by_cases e : k' = k
            · subst e
              rw [if_pos rfl, if_pos hkl, if_neg (by simp [List.mem_filter]), hw]; rfl
            · rw [if_neg e]
              by_cases hkl' : k' ∈ left
              · rw [if_pos hkl', if_pos (List.mem_filter.2 ⟨hkl', by simpa using e⟩)]
              · rw [if_neg hkl', if_neg (fun h => hkl' (List.mem_filter.1 h).1)]
          · have h45 := l45 q (hlive q hq)
            rw [hr64 q (by rw [l61 q h45]; exact h45)]; exact hr2 q hq
          · have h45 := l45 q (hlive q h3)
            exact (f64 q (by rw [hr2 q h3]; exact h1) h2 (by rw [l61 q h45]; exact h45)).trans ((l61 q h45).trans ((f45 q (ni q h3)).trans (hfr q h1 h2 h3)))
          · have h45 := l45 q (hlive q hq)
            have e3 : rl3 q = rl2 q := hr64 q (by rw [l61 q h45]; exact h45)
            by_cases h8 : rl2 q < 8
            · exact (O64 q (by omega)).2
            · rw [f64 q (by omega) (fun e => by rw [e] at h8; omega) (by rw [l61 q h45]; exact h45), l61 q h45]; exact h45
          · rw [hr64 i38 (by rw [l61 _ li]; exact li)]; exact hi8
      refine ⟨k, rfl, true, rfl, cndT rfl (entry_to hE ⟨k, rfl, true, rfl, some v, hcl eg45 3, some v, hcl eg45 3, F45.look fun A' n' c' b' hA' => ⟨A', n', c', rfl, rfl, fun g60 hg60 => push g60 hg60 A' n' c' hA'⟩, fun g65 hg65 => (F45.grow (Ext.new hg65)).look fun A' n' c' b' hA' => ⟨A', n', c', rfl, rfl, push g65 hg65 A' n' c' hA'⟩⟩)⟩
  · have o1' : x.op ≠ 1 := by simpa using o1
    have o3' : x.op ≠ 3 := by simpa using o3
    have o4' : x.op ≠ 4 := by simpa using o4
    exact hJ H14 rl iw sl (O.skip o1' o3' o4')
end
end Go.Proofs.YtibhpoikhkokiaaGreat.Hw

/- Histories: what the book is asked. -/
set_option linter.unusedVariables false
set_option linter.unusedSimpArgs false
set_option maxRecDepth 20000
namespace Go.Proofs.YtibhpoikhkokiaaGreat.Hw
open Go Go.Proofs
def idxI (l : List Int) (x : Int) : Int := match l.findIdx? (fun y => x == y) with
  | some i => (i : Int)
  | none => -1
def nextM (l : List Ev) (item frm : Int) : Int := if frm == 0 then ((versM l item)[0]?).getD 0 else match (versM l item).findIdx? (fun y => frm == y) with
  | some i => ((versM l item)[i + 1]?).getD 0
  | none => 0
def natOr (o : Option Nat) : Nat := o.getD 0
def badRead (l : List Ev) (x : Ev) : Bool := (x.op == 2) && ((x.frm != 0) && ((x.frm != x.txn) && comB l x.txn))
def abTo (l : List Ev) (n : Nat) : Bool := (l.take n).any fun x => badRead l x && !comB l x.frm
def btAt (l : List Ev) (i : Nat) : Bool := match l[i]? with
  | some x => badRead l x && decide (i < natOr (lastW l x.frm x.item))
  | none => false
def btTo (l : List Ev) (n : Nat) : Bool := (List.range n).any (btAt l)
theorem btTo_succ {l : List Ev} {n : Nat} : btTo l (n + 1) = (btTo l n || btAt l n) := by unfold btTo; rw [List.range_succ]; simp
section
variable {H H' : Hp} {g c b v w : Nat} {sl : Int → Option Addr × Nat} {A : Option Addr} {n cp : Nat} {l : List Ev} {Q : Value → Hp → Prop}
theorem BookAt.ext (B : BookAt H g c b v w sl A n cp l) (hx : Ext H H') : BookAt H' g c b v w sl A n cp l := by
  obtain ⟨ty, hc⟩ := B.cell
  have lv : ∀ {q}, H q ≠ none → H' q = H q := fun {q} hq => by
    cases h : H q with
    | none => exact absurd h hq
    | some o => exact hx q o h
  exact ⟨⟨ty, hx _ _ hc⟩, B.evs.ext hx, B.cap, B.commits.keep (lv B.commits.live), B.begins.keep (lv B.begins.live), B.vers.keep (lv B.vers.live), fun k hk => ⟨(B.row k hk).1.ext hx, (B.row k hk).2⟩, B.lastw.keep (lv B.lastw.live)⟩
theorem BookAt.cl (B : BookAt H g c b v w sl A n cp l) (k : Nat) : cl H g k = ([Value.slice A n cp, .map (some c), .map (some b), .map (some v), .map (some w)])[k]? := by
  obtain ⟨ty, hc⟩ := B.cell
  exact cl_cells (cs := [.slice A n cp, .map (some c), .map (some b), .map (some v), .map (some w)]) hc k
/-- The versions of an item, looked up. -/
theorem BookAt.look {k : Int} {K : Value → Bool → Prop} (B : BookAt H g c b v w sl A n cp l) (hk : ∀ A' n' c' b, SlAt inC H A' n' (versM l k) → n' ≤ c' → K (.slice A' n' c') b) : lookF H .i64 (some v) k (.slice none 0 0) K := by
  refine B.vers.look ?_
  cases he : (versM l k).isEmpty with
  | true =>
    rw [if_pos rfl]
    have e : versM l k = [] := List.isEmpty_iff.1 he
    exact hk none 0 0 _ (by rw [e]; exact ⟨rfl, .inl rfl, by decide⟩) (Nat.le_refl _)
  | false =>
    rw [if_neg (by decide)]
    exact hk _ _ _ _ (B.row k he).1 (B.row k he).2
theorem c74 {t : Int} (B : BookAt H g c b v w sl A n cp l) (hq : Q (.bool (comB l t)) H) : HCalls Tryz.prog 74 [.pointer (some ⟨g, 0, none⟩), .int .i64 t] H Q := by
  refine f74.ok _ _ _ ?_
  unfold f74
  refine ⟨some c, B.cl 1, B.commits.look ⟨((commitI l t).getD 0 : Nat), ?_, ?_⟩⟩
  · cases commitI l t <;> rfl
  · unfold comB at hq; rw [Option.isSome_map]; exact hq
theorem c72 {A : Option Addr} {n k : Nat} {l : List Int} {x : Int} (hA : SlAt inC H A n l) (hq : Q (.int .i64 (idxI l x)) H) : HCalls Tryz.prog 72 [.slice A n k, .int .i64 x] H Q := by
  refine f72.ok _ _ _ _ ?_
  unfold f72
  obtain rfl := hA.len
  have hlt := hA.lt
  refine scan hlt (fun i H' => H' = H ∧ ∀ j y, j < i → l[j]? = some y → (x == y) = false) ⟨rfl, fun j y h => by omega⟩ ?_ ?_
  · rintro i H next hi ⟨rfl, hI⟩ hnext
    obtain ⟨y, hy⟩ := get_of hi
    dsimp only
    refine cndT (decide_eq_true (by omega)) ⟨by omega, by omega, rd_in hA hy fun q o _ hc => ⟨y, by simpa using hc, cndI (fun h => ?_) (fun h => ⟨rfl, hnext _ ⟨rfl, fun j z hj hz => ?_⟩⟩)⟩⟩
    · have : l.findIdx? (fun y => x == y) = some i := by
        rw [List.findIdx?_eq_some_iff_getElem]
        obtain ⟨h1, h2⟩ := List.getElem?_eq_some_iff.1 hy
        refine ⟨h1, by rw [h2]; exact h, fun j hj => ?_⟩
        have := hI j _ hj (List.getElem?_eq_getElem (by omega))
        rw [this]; decide
      unfold idxI at hq
      rw [this] at hq; exact hq
    · by_cases e : j = i
      · subst e; rw [hy] at hz; cases hz; exact h
      · exact hI j z (by omega) hz
  · rintro H next ⟨rfl, hI⟩
    have : l.findIdx? (fun y => x == y) = none := by
      rw [List.findIdx?_eq_none_iff]
      intro y hy
      obtain ⟨j, hj⟩ := List.getElem?_of_mem hy
      exact hI j y (List.getElem?_eq_some_iff.1 hj).1 hj
    unfold idxI at hq
    rw [this] at hq
    dsimp only
    exact cndF (decide_eq_false (by omega)) hq
theorem c40 {A : Option Addr} {n k : Nat} {l : List Int} {x : Int} (hA : SlAt inC H A n l) (hq : Q (.bool (l.any (fun y => x == y))) H) : HCalls Tryz.prog 40 [.slice A n k, .int .i64 x] H Q := by
  refine f40.ok _ _ _ _ ?_
  unfold f40
  refine c72 hA ⟨_, rfl, ?_⟩
  have : decide (idxI l x ≥ 0) = l.any (fun y => x == y) := by
    unfold idxI
    cases h : l.findIdx? (fun y => x == y) with
    | none =>
      rw [List.findIdx?_eq_none_iff] at h
      have : l.any (fun y => x == y) = false := by rw [List.any_eq_false]; intro y hy; rw [h y hy]; decide
      rw [this]; rfl
    | some i =>
      rw [List.findIdx?_eq_some_iff_getElem] at h
      obtain ⟨h1, h2, _⟩ := h
      rw [List.any_eq_true.2 ⟨_, List.getElem_mem h1, h2⟩]
      exact decide_eq_true (show (i : Int) ≥ 0 by omega)
  rw [this]; exact hq
theorem c75 {item frm : Int} (B : BookAt H g c b v w sl A n cp l) (hq : Q (.int .i64 (nextM l item frm)) H) : HCalls Tryz.prog 75 [.pointer (some ⟨g, 0, none⟩), .int .i64 item, .int .i64 frm] H Q := by
  refine f75.ok _ _ _ _ ?_
  unfold f75
  refine ⟨some v, B.cl 3, B.look fun A' n' c' b' hA' hc' => ⟨A', n', c', rfl, ?_⟩⟩
  obtain rfl := hA'.len
  have hlt := hA'.lt
  refine jn_intro (fun J => ∀ k : Nat, k ≤ (versM l item).length → Q (.int .i64 (((versM l item)[k]?).getD 0)) H → J ((k : Int) - 1) H) (fun k hkl hk => ?_) fun J hJ => cndI (fun h => ?_) fun h => ?_
  · have ek : IntKind.i64.wrap ((k : Int) - 1 + 1) = (k : Int) := by rw [wrap_id (by omega) (by omega)]; omega
    rw [ek]
    by_cases hlt' : k < (versM l item).length
    · obtain ⟨y, hy⟩ := get_of hlt'
      rw [hy] at hk
      exact cndT (decide_eq_true (by omega)) ⟨by omega, by omega, rd_in hA' hy fun q o _ hc => ⟨y, by simpa using hc, hk⟩⟩
    · rw [List.getElem?_eq_none (by omega)] at hk
      exact cndF (decide_eq_false (by omega)) hk
  · have h0 : (frm == 0) = false := by simpa using h
    unfold nextM at hq
    rw [h0] at hq
    refine c72 hA' ⟨_, rfl, ?_⟩
    unfold idxI
    cases hf : (versM l item).findIdx? (fun y => frm == y) with
    | none => rw [hf] at hq; exact cndT rfl hq
    | some i =>
      rw [hf] at hq
      have hi := (List.findIdx?_eq_some_iff_getElem.1 hf).1
      have := hJ (i + 1) (by omega) hq
      refine cndF (decide_eq_false (show ¬ ((i : Int) < 0) by omega)) ?_
      rw [show (((i + 1 : Nat) : Int) - 1) = (i : Int) by omega] at this
      exact this
  · have h0 : (frm == 0) = true := by simpa using h
    unfold nextM at hq
    rw [h0] at hq
    exact hJ 0 (Nat.zero_le _) hq
theorem c44 (B : BookAt H g c b v w sl A n cp l) (hq : Q (.tuple #[.bool (abTo l l.length), .bool (btTo l l.length)]) H) : HCalls Tryz.prog 44 [.pointer (some ⟨g, 0, none⟩)] H Q := by
  refine f44.ok _ _ ?_
  unfold f44
  have hA := B.evs
  obtain rfl := hA.len
  have hlt := hA.lt
  refine ⟨A, l.length, cp, B.cl 0, ?_⟩
  refine loop_to l.length (fun i s H' => s = ((abTo l i, (btTo l i, ((i : Int), ()))), ()) ∧ H' = H) ⟨rfl, rfl⟩ ?_
  rintro i s H3 next hi ⟨rfl, rfl⟩ hnext
  dsimp only
  by_cases h : i < l.length
  · obtain ⟨x, hx⟩ := get_of h
    have ei : IntKind.i64.wrap ((i : Int) + 1) = ((i + 1 : Nat) : Int) := by rw [wrap_id (by omega) (by omega)]; rfl
    have ea : abTo l (i + 1) = (abTo l i || (badRead l x && !comB l x.frm)) := by unfold abTo; rw [any_take_succ hx]
    have eb : btTo l (i + 1) = (btTo l i || (badRead l x && decide (i < natOr (lastW l x.frm x.item)))) := by rw [btTo_succ]; unfold btAt; rw [hx]
    refine cndT (decide_eq_true (by omega)) (jn_intro (fun J => J (abTo l (i + 1)) (btTo l (i + 1)) H3) ⟨rfl, hnext _ _ h ⟨by rw [ei], rfl⟩⟩ fun J hJ => ⟨by omega, by omega, rd_ev hA hx fun q o _ k1 k2 k3 k4 k5 => ⟨x.op, by simpa using k1, x.txn, by simpa using k2, x.item, by simpa using k3, x.frm, by simpa using k4, x.stmt, by simpa using k5, ?_⟩⟩)
    refine jn_intro (fun J' => (badRead l x = false → J' true H3) ∧ (badRead l x = true → J' false H3)) ⟨fun hb => cndT rfl ?_, fun hb => cndF rfl ?_⟩ fun J' h' => ?_
    · rw [ea, eb, hb] at hJ
      simpa using hJ
    · rw [ea, eb, hb] at hJ
      refine jn_intro (fun J2 => J2 (abTo l i || !comB l x.frm) H3) ?_ fun J2 h2 => ?_
      · refine cndI (fun hbt => ?_) fun hbt => ⟨some w, B.cl 4, B.lastw.look ⟨((lastW l x.frm x.item).getD 0 : Nat), by cases lastW l x.frm x.item <;> rfl, ?_⟩⟩
        · rw [hbt] at hJ; simpa using hJ
        · rw [hbt] at hJ
          have : decide ((((lastW l x.frm x.item).getD 0 : Nat) : Int) > (i : Int)) = decide (i < natOr (lastW l x.frm x.item)) := decide_eq_decide.2 (by unfold natOr; omega)
          rw [this]
          simpa using hJ
      · refine cndI (fun hab => ?_) fun hab => c74 B ⟨_, rfl, ?_⟩
        · rw [hab] at h2; exact h2
        · rw [hab] at h2; exact h2
    · unfold badRead at h'
      refine cndI (fun g1 => h'.1 ?_) fun g1 => cndI (fun g2 => h'.1 ?_) fun g2 => cndI (fun g3 => h'.1 ?_) fun g3 => c74 B ⟨_, rfl, ?_⟩
      · have : (x.op == 2) = false := by simpa using g1
        rw [this]; rfl
      · have : (x.frm != 0) = false := by simpa using g2
        rw [this]; simp
      · have : (x.frm != x.txn) = false := by simpa using g3
        rw [this]; simp
      · have e1 : (x.op == 2) = true := by simpa using g1
        have e2 : (x.frm != 0) = true := by simpa using g2
        have e3 : (x.frm != x.txn) = true := by simpa using g3
        rw [e1, e2, e3] at h'
        cases hc : comB l x.txn with
        | true => exact h'.2 (by rw [hc]; rfl)
        | false => exact h'.1 (by rw [hc]; rfl)
  · obtain rfl : i = l.length := by omega
    exact cndF (decide_eq_false (by omega)) hq
end
end Go.Proofs.YtibhpoikhkokiaaGreat.Hw

/- Histories: arcs, their order; the closure that adds one. -/
set_option linter.unusedVariables false
set_option linter.unusedSimpArgs false
set_option maxRecDepth 20000
namespace Go.Proofs.YtibhpoikhkokiaaGreat.Hw
open Go Go.Proofs
structure Arc where
  a : Int
  b : Int
  kind : Int
  item : Int
  deriving DecidableEq
def arC (x : Arc) : List Value := [.int .i64 x.a, .int .i64 x.b, .int .i64 x.kind, .int .i64 x.item]
theorem arC_len (x : Arc) : (arC x).length = 4 := rfl
theorem arC_one (x : Arc) : ∀ v ∈ arC x, v.oneCell' = true := fun v hv => by
  simp only [arC, List.mem_cons, List.not_mem_nil, or_false] at hv
  rcases hv with rfl | rfl | rfl | rfl <;> rfl
theorem rd_ar {H : Hp} {A : Option Addr} {n : Nat} {l : List Arc} {i : Nat} {x : Arc} (h : SlAt arC H A n l) (hi : l[i]? = some x) {K : Nat → Nat → Prop}
    (hk : ∀ p o, A = some ⟨p, o, none⟩ → cl H p (o + i * 4) = some (.int .i64 x.a) → cl H p (o + i * 4 + 1) = some (.int .i64 x.b) → cl H p (o + i * 4 + 1 + 1) = some (.int .i64 x.kind) → cl H p (o + i * 4 + 1 + 1 + 1) = some (.int .i64 x.item) → K p o) : onPtr A K := by
  have hlen : ∀ x ∈ l, (arC x).length = 4 := fun x _ => rfl
  have hne : l ≠ [] := fun e => by subst e; simp at hi
  refine at_cells h.cells (flat_ne hlen (by omega) hne) fun p o hA hc => hk p o hA ?_ ?_ ?_ ?_
  · have := hc (i * 4 + 0) _ (flat_get hlen hi (by omega)); rw [Nat.add_zero] at this; exact this
  · have := hc (i * 4 + 1) _ (flat_get hlen hi (by omega)); rw [← Nat.add_assoc] at this; exact this
  · have := hc (i * 4 + 2) _ (flat_get hlen hi (by omega)); rw [← Nat.add_assoc] at this; exact this
  · have := hc (i * 4 + 3) _ (flat_get hlen hi (by omega)); rw [← Nat.add_assoc] at this; exact this
def cmpI (x y : Int) : Int := if x < y then -1 else if x > y then 1 else 0
def orI (x y : Int) : Int := if x == 0 then y else x
def ordA (x y : Arc) : Int := orI (cmpI x.a y.a) (orI (cmpI x.b y.b) (orI (cmpI x.kind y.kind) (cmpI x.item y.item)))
def ltA (x y : Arc) : Prop := x.a < y.a ∨ (x.a = y.a ∧ (x.b < y.b ∨ (x.b = y.b ∧ (x.kind < y.kind ∨ (x.kind = y.kind ∧ x.item < y.item)))))
theorem cmpI_eq {x y : Int} : cmpI x y = 0 ↔ x = y := by unfold cmpI; split <;> (try split) <;> omega
theorem cmpI_lt {x y : Int} : cmpI x y < 0 ↔ x < y := by unfold cmpI; split <;> (try split) <;> omega
theorem orI_lt {x y : Int} : orI x y < 0 ↔ x < 0 ∨ (x = 0 ∧ y < 0) := by
  unfold orI
  by_cases h : x = 0
  · subst h; simp
  · rw [if_neg (by simpa using h)]
    constructor
    · exact .inl
    · rintro (h' | h')
      · exact h'
      · exact absurd h'.1 h
theorem ordA_lt {x y : Arc} : ordA x y < 0 ↔ ltA x y := by
  unfold ordA ltA
  rw [orI_lt, orI_lt, orI_lt, cmpI_lt, cmpI_lt, cmpI_lt, cmpI_lt, cmpI_eq, cmpI_eq, cmpI_eq]
theorem ltA_irrefl {x : Arc} : ¬ ltA x x := by unfold ltA; omega
theorem ltA_trans {x y z : Arc} (h : ltA x y) (h' : ltA y z) : ltA x z := by unfold ltA at *; omega
theorem ltA_total {x y : Arc} (h : ¬ ltA x y) (h' : ¬ ltA y x) : x = y := by
  obtain ⟨a, b, c, d⟩ := x
  obtain ⟨a', b', c', d'⟩ := y
  unfold ltA at h h'
  simp only at h h'
  have : a = a' := by omega
  have : b = b' := by omega
  have : c = c' := by omega
  have : d = d' := by omega
  subst_vars; rfl
theorem nodup_len : ∀ {l m : List Int}, l.Nodup → (∀ x ∈ l, x ∈ m) → l.length ≤ m.length
  | [], m, _, _ => Nat.zero_le _
  | a :: l, m, hn, hs => by
    obtain ⟨h1, h2⟩ := List.nodup_cons.1 hn
    have ha := hs a List.mem_cons_self
    have := nodup_len (m := m.erase a) h2 fun x hx => (List.mem_erase_of_ne (fun e : x = a => h1 (by rw [← e]; exact hx))).2 (hs x (List.mem_cons_of_mem _ hx))
    rw [List.length_erase_of_mem ha] at this
    have := List.length_pos_of_mem ha
    rw [List.length_cons]; omega
theorem ext_at {H H' : Hp} (hx : Ext H H') {b : Nat} (h : H b ≠ none) : H' b = H b := by
  cases hb : H b with
  | none => exact absurd hb h
  | some o => exact hx b o hb
section
variable {H0 H H' : Hp} {g c b v w : Nat} {sl : Int → Option Addr × Nat} {A : Option Addr} {n cp : Nat} {l : List Ev} {Q : Value → Hp → Prop}
theorem c123 {x : Int} (hq : Q (.bool false) H) : HCalls Tryz.prog 123 [.int .i64 x] H Q := by
  refine f123.ok _ ?_
  unfold f123
  simpa using hq
theorem c103 {x y : Int} (hq : Q (.int .i64 (cmpI x y)) H) : HCalls Tryz.prog 103 [.int .i64 x, .int .i64 y] H Q := by
  refine f103.ok _ _ ?_
  unfold f103
  unfold cmpI at hq
  refine c123 ⟨false, rfl, c123 ⟨false, rfl, cndF rfl (cndF rfl (cndI (fun h => ?_) fun h => cndI (fun h2 => ?_) fun h2 => ?_))⟩⟩
  · rw [if_pos (of_decide_eq_true h)] at hq; exact hq
  · rw [if_neg (of_decide_eq_false h), if_pos (of_decide_eq_true h2)] at hq; exact hq
  · rw [if_neg (of_decide_eq_false h), if_neg (of_decide_eq_false h2)] at hq; exact hq
def orL (l : List Int) : Int := (l.find? (fun x => x != 0)).getD 0
theorem c102 {A : Option Addr} {n k : Nat} {l : List Int} (hA : SlAt inC H A n l) (hq : Q (.int .i64 (orL l)) H) : HCalls Tryz.prog 102 [.slice A n k] H Q := by
  refine f102.ok _ _ _ ?_
  unfold f102
  obtain rfl := hA.len
  have hlt := hA.lt
  refine scan hlt (fun i H' => H' = H ∧ ∀ y ∈ l.take i, (y != 0) = false) ⟨rfl, fun y hy => by simp at hy⟩ ?_ ?_
  · rintro i H next hi ⟨rfl, hI⟩ hnext
    obtain ⟨y, hy⟩ := get_of hi
    dsimp only
    refine cndT (decide_eq_true (by omega)) ⟨by omega, by omega, rd_in hA hy fun q o _ hc => ⟨y, by simpa using hc, cndI (fun h => ?_) (fun h => ⟨rfl, hnext _ ⟨rfl, fun z hz => ?_⟩⟩)⟩⟩
    · have : l.find? (fun x => x != 0) = some y := by
        obtain ⟨h1, h2⟩ := List.getElem?_eq_some_iff.1 hy
        rw [← List.take_append_drop i l, List.find?_append, List.find?_eq_none.2 (fun z hz => by rw [hI z hz]; decide), List.drop_eq_getElem_cons h1, h2, List.find?_cons, h]
        rfl
      unfold orL at hq
      rw [this] at hq; exact hq
    · rw [take_snoc hy] at hz
      rcases List.mem_append.1 hz with hz | hz
      · exact hI z hz
      · obtain rfl := List.mem_singleton.1 hz; exact h
  · rintro H next ⟨rfl, hI⟩
    rw [List.take_length] at hI
    have : l.find? (fun x => x != 0) = none := List.find?_eq_none.2 fun z hz => by rw [hI z hz]; decide
    unfold orL at hq
    rw [this] at hq
    dsimp only
    exact cndF (decide_eq_false (by omega)) hq
theorem c77 {x y : Arc} (hq : ∀ H', Ext H H' → Q (.int .i64 (ordA x y)) H') : HCalls Tryz.prog 77 [.agg #[.int .i64 x.a, .int .i64 x.b, .int .i64 x.kind, .int .i64 x.item], .agg #[.int .i64 y.a, .int .i64 y.b, .int .i64 y.kind, .int .i64 y.item]] H Q := by
  refine f77.ok _ _ _ _ _ _ _ _ ?_
  unfold f77
  refine c103 ⟨_, rfl, c103 ⟨_, rfl, c103 ⟨_, rfl, c103 ⟨_, rfl, fun g hg => ?_⟩⟩⟩⟩
  have hx : Ext H (upd g (Obj.cells [Value.int .i64 (cmpI x.a y.a), .int .i64 (cmpI x.b y.b), .int .i64 (cmpI x.kind y.kind), .int .i64 (cmpI x.item y.item)].toArray 3 (0, 0)) H) := Ext.new hg
  refine c102 (l := [cmpI x.a y.a, cmpI x.b y.b, cmpI x.kind y.kind, cmpI x.item y.item]) ⟨rfl, .inr ⟨g, 0, rfl, fun j u hj => ?_⟩, by show 4 < huge; decide⟩ ⟨_, rfl, ?_⟩
  · rw [cl_cells upd_at, Nat.zero_add]; exact hj
  · have : orL [cmpI x.a y.a, cmpI x.b y.b, cmpI x.kind y.kind, cmpI x.item y.item] = ordA x y := by
      unfold orL ordA orI
      generalize cmpI x.a y.a = p
      generalize cmpI x.b y.b = q
      generalize cmpI x.kind y.kind = r
      generalize cmpI x.item y.item = s
      simp only [List.find?_cons, List.find?_nil, bne]
      cases h1 : p == 0 with
      | false => rfl
      | true =>
        cases h2 : q == 0 with
        | false => rfl
        | true =>
          cases h3 : r == 0 with
          | false => rfl
          | true =>
            cases h4 : s == 0 with
            | false => rfl
            | true =>
              have : s = 0 := by simpa using h4
              subst this; rfl
    rw [this]; exact hq _ hx
theorem Row.push1 {α : Type} {f : α → List Value} {k ty eby : Nat} (hf : ∀ x, (f x).length = k) (ho : ∀ x, ∀ v ∈ f x, v.oneCell' = true) (he : eby ≤ 100) {S : Option Addr} {c g : Nat} {st : List α} {w : α} {K : Option Addr → Nat → Nat → Hp → Prop} (R : Row H0 H S st.length c k (st.flatMap f)) (hx : Ext H0 H) (hs : st.length < big) (hg : H g = none)
    (hk : ∀ A' c' H', Row H0 H' A' (st ++ [w]).length c' k ((st ++ [w]).flatMap f) → Ext H0 H' → (∀ b, H' b ≠ H b → rowB S b ∨ H b = none) → (∀ b, rowB A' b → rowB S b ∨ H b = none) → K A' (st ++ [w]).length c' H') :
    appendF (upd g (.cells (f w).toArray ty (0, 0)) H) ty k eby S st.length c (some ⟨g, 0, none⟩) 1 K := by
  unfold big at hs
  have hx1 : Ext H (upd g (.cells (f w).toArray ty (0, 0)) H) := Ext.new hg
  have R1 := Row.keep R (fun b hb => ext_at hx1 (R.lt hb).1)
  have hroom : (st.length + 1) * eby ≤ 1000000000001 * 100 := Nat.mul_le_mul (by omega) he
  refine R1.append (hx.trans hx1) (new := f w) (.inr ⟨g, 0, rfl, fun j v hj => by rw [cl_cells upd_at, Nat.zero_add]; exact hj⟩) (by rw [hf]; omega) (ho w) (by omega) (by omega) fun A' c' H' R' x' ch nw _ => ?_
  have old : ∀ b, (upd g (.cells (f w).toArray ty (0, 0)) H) b = none → H b = none := fun b h => hx1.none h
  have := hk A' c' H' (by rw [List.length_append, List.flatMap_append]; simpa using R') x' (fun b hb => ?_) (fun b hb => (nw b hb).imp id (old b))
  · rw [List.length_append] at this; exact this
  · by_cases e : b = g
    · subst e; exact .inr hg
    · have : H' b ≠ (upd g (.cells (f w).toArray ty (0, 0)) H) b := by rw [upd_off e]; exact hb
      exact (ch b this).2.imp id (old b)

def arc1 (l : List Ev) (x y kind item : Int) : List Arc := if (x != y) && (comB l x && comB l y) then [⟨x, y, kind, item⟩] else []
/-- The arcs that are gathered, behind a variable. -/
structure OutA (H0 H : Hp) (g3 : Nat) (out : List Arc) : Prop where
  ext : Ext H0 H
  none0 : H0 g3 = none
  cell : ∃ A c, H g3 = some (.cells #[.slice A out.length c] 39 (0, 0)) ∧ Row H0 H A out.length c 4 (out.flatMap arC) ∧ ¬ rowB A g3
theorem OutA.grow {g3 : Nat} {out : List Arc} (O : OutA H0 H g3 out) (hx : Ext H H') : OutA H0 H' g3 out := by
  obtain ⟨A, c, h1, h2, h3⟩ := O.cell
  exact ⟨O.ext.trans hx, O.none0, A, c, hx _ _ h1, h2.keep fun q hq => ext_at hx (h2.lt hq).1, h3⟩
/-- What was there before the variable stays. -/
theorem c73 {g1 g3 : Nat} {out : List Arc} {x y kind item : Int} (O : OutA H0 H g3 out) (B : BookAt H0 g c b v w sl A n cp l) (hg1 : H0 g1 = some (.cells #[.pointer (some ⟨g, 0, none⟩)] 56 (0, 0))) (hs : out.length < 1000000000)
    (hq : ∀ H', OutA H0 H' g3 (out ++ arc1 l x y kind item) → (∀ q, H q ≠ none → (∀ cs ty z, H q ≠ some (.cells cs ty z)) → H' q = H q) → Q (.tuple #[]) H') :
    HCalls Tryz.prog 73 [.int .i64 x, .int .i64 y, .int .i64 kind, .int .i64 item, .pointer (some ⟨g1, 0, none⟩), .pointer (some ⟨g3, 0, none⟩)] H Q := by
  refine f73.ok _ _ _ _ _ _ _ _ ?_
  unfold f73
  have B' := B.ext O.ext
  have h1 : cl H g1 0 = some (.pointer (some ⟨g, 0, none⟩)) := cl_cells (cs := [.pointer (some ⟨g, 0, none⟩)]) (O.ext _ _ hg1) 0
  refine jn_intro (fun J => ∀ b, b = ((x != y) && (comB l x && comB l y)) → J b H) (fun b hb => cndI (fun hbt => ?_) fun hbf => ?_) fun J hJ => cndI (fun e1 => ⟨_, h1, c74 B' ⟨_, rfl, cndI (fun e2 => ⟨_, h1, c74 B' ⟨_, rfl, hJ _ ?_⟩⟩) fun e2 => hJ _ ?_⟩⟩) fun e1 => hJ _ ?_
  · obtain ⟨A', c', hc, R, hn⟩ := O.cell
    refine ⟨A', out.length, c', cl_cells (cs := [.slice A' out.length c']) hc 0, fun g13 hg13 => ?_⟩
    have ho : out ++ arc1 l x y kind item = out ++ [⟨x, y, kind, item⟩] := by unfold arc1; rw [← hb, hbt]; rfl
    rw [ho] at hq
    refine Row.push1 (w := (⟨x, y, kind, item⟩ : Arc)) (f := arC) arC_len arC_one (by omega) R O.ext (by unfold big; omega) hg13 fun A2 c2 H2 R2 x2 fr2 nb2 => ?_
    have hg3 : H2 g3 = H g3 := by
      apply Classical.byContradiction
      intro hne
      rcases fr2 g3 hne with h | h
      · exact hn h
      · rw [hc] at h; cases h
    have hn2 : ¬ rowB A2 g3 := fun h => by
      rcases nb2 g3 h with h | h
      · exact hn h
      · rw [hc] at h; cases h
    refine ⟨[.slice A' out.length c'], 39, hg3.trans hc, by simp, ?_⟩
    refine hq _ ⟨x2.upd O.none0, O.none0, A2, c2, by rw [upd_at]; rfl, R2.keep fun q hq' => upd_off fun e => hn2 (e ▸ hq'), hn2⟩ (fun q hq' hcs => ?_)
    · have e : q ≠ g3 := fun e => by subst e; exact hcs _ _ _ hc
      rw [upd_off e]
      apply Classical.byContradiction
      intro hne
      rcases fr2 q hne with h | h
      · obtain ⟨_, _, hh | ⟨b0, cs, ty, rfl, hb0, _⟩⟩ := R
        · obtain ⟨o, z, h'⟩ := h; rw [hh.1] at h'; cases h'
        · obtain ⟨o, z, h'⟩ := h; cases h'; exact hcs _ _ _ hb0
      · exact hq' h
  · have ho : out ++ arc1 l x y kind item = out := by unfold arc1; rw [← hb, hbf]; simp
    rw [ho] at hq
    exact hq H O fun q _ _ => rfl
  · rw [show (x != y) = true from e1, e2]; rfl
  · rw [show (x != y) = true from e1, e2]; rfl
  · rw [show (x != y) = false from e1]; rfl
end
end Go.Proofs.YtibhpoikhkokiaaGreat.Hw

/- Histories: slices.Compact of arcs. -/
set_option linter.unusedVariables false
set_option linter.unusedSimpArgs false
set_option maxRecDepth 20000
namespace Go.Proofs.YtibhpoikhkokiaaGreat.Hw
open Go Go.Proofs
section
variable {H : Hp}
theorem cells_cut {α : Type} {f : α → List Value} {k : Nat} (hf : ∀ x, (f x).length = k) {A : Option Addr} {l : List α} {p m : Nat} {stay : Bool} (hA : cellsAt H A (l.flatMap f)) (hs : stay = true → m = 0) (hm : p + m ≤ l.length) :
    cellsAt H (cutA A (p * k) stay) (((l.drop p).take m).flatMap f) := by
  by_cases h0 : ((l.drop p).take m).flatMap f = []
  · exact .inl h0
  have hm0 : m ≠ 0 := fun e => h0 (by rw [e]; rfl)
  have hst : stay = false := by cases stay with | false => rfl | true => exact absurd (hs rfl) hm0
  subst hst
  rcases hA with hA | ⟨b, o, rfl, hc⟩
  · exfalso
    apply h0
    rw [List.flatMap_eq_nil_iff] at hA ⊢
    exact fun x hx => hA x (List.mem_of_mem_drop (List.mem_of_mem_take hx))
  · refine .inr ⟨b, o + p * k, ?_, fun j v hj => ?_⟩
    · unfold cutA
      simp only [Option.map_some, Option.some.injEq]
      unfold Addr.add
      by_cases h : p * k = 0
      · rw [h]; rfl
      · simp [h]
    · have hk : 0 < k := by
        refine Nat.pos_of_ne_zero fun e => h0 ?_
        rw [List.flatMap_eq_nil_iff]
        exact fun x _ => List.eq_nil_of_length_eq_zero (by rw [hf, e])
      have hlen : ∀ x ∈ (l.drop p).take m, (f x).length = k := fun x _ => hf x
      have hjl : j < m * k := by
        have := (List.getElem?_eq_some_iff.1 hj).1
        rw [flat_length hlen, List.length_take, List.length_drop, Nat.min_eq_left (by omega)] at this
        exact this
      have hi : j / k < m := Nat.div_lt_of_lt_mul (by rw [Nat.mul_comm]; exact hjl)
      have hq : j % k < k := Nat.mod_lt _ hk
      have hd : j = j / k * k + j % k := by have := Nat.div_add_mod j k; rw [Nat.mul_comm] at this; exact this.symm
      obtain ⟨x, hx⟩ := get_of (l := l) (i := p + j / k) (by omega)
      have hx' : ((l.drop p).take m)[j / k]? = some x := by rw [List.getElem?_take_of_lt hi, List.getElem?_drop]; exact hx
      rw [hd, flat_get hlen hx' hq] at hj
      have h1 := hc ((p + j / k) * k + j % k) v ((flat_get (fun x _ => hf x) hx hq).trans hj)
      rw [Nat.add_mul] at h1
      rw [hd]
      rw [show o + p * k + (j / k * k + j % k) = o + (p * k + j / k * k + j % k) by omega]
      exact h1
theorem SlAt.cut {α : Type} {f : α → List Value} {k : Nat} (hf : ∀ x, (f x).length = k) {A : Option Addr} {n c : Nat} {l : List α} {p m : Nat} (hA : SlAt f H A n l) (hc : n ≤ c) (hm : p + m ≤ l.length) : SlAt f H (cutA A (p * k) (decide (c = p))) m ((l.drop p).take m) :=
  ⟨by rw [List.length_take, List.length_drop]; omega, cells_cut hf hA.cells (fun h => by have := of_decide_eq_true h; have := hA.len; omega) hm, by have := hA.small; rw [List.length_take, List.length_drop]; omega⟩
end
/-- Without those that equal the one before them. -/
def ddT (l : List Arc) : Nat → List Arc
  | 0 => []
  | j + 1 => match l[j]? with
    | none => ddT l j
    | some x => if decide (0 < j) && decide (l[j - 1]? = some x) then ddT l j else ddT l j ++ [x]
theorem ddT_len {l : List Arc} : ∀ {j : Nat}, (ddT l j).length ≤ j
  | 0 => Nat.le_refl _
  | j + 1 => by
    have := ddT_len (l := l) (j := j)
    unfold ddT
    split
    · omega
    · split
      · omega
      · rw [List.length_append, List.length_singleton]; omega
theorem ddT_mem {l : List Arc} {x : Arc} : ∀ {j : Nat}, x ∈ ddT l j ↔ x ∈ l.take j
  | 0 => by simp [ddT]
  | j + 1 => by
    have ih := ddT_mem (l := l) (x := x) (j := j)
    unfold ddT
    split
    · rename_i h
      rw [List.getElem?_eq_none_iff] at h
      rw [ih, List.take_of_length_le h, List.take_of_length_le (by omega)]
    · rename_i y hy
      rw [take_snoc hy, List.mem_append, List.mem_singleton]
      split
      · rename_i h
        simp only [Bool.and_eq_true, decide_eq_true_eq] at h
        rw [ih]
        refine ⟨.inl, fun h' => h'.elim id fun e => ?_⟩
        subst e
        exact List.mem_of_getElem? (i := j - 1) (by rw [List.getElem?_take_of_lt (by omega)]; exact h.2)
      · rw [List.mem_append, List.mem_singleton, ih]
theorem ddT_sorted {l : List Arc} (h : l.Pairwise fun x y => ¬ ltA y x) : ∀ {j : Nat}, (ddT l j).Pairwise ltA
  | 0 => List.Pairwise.nil
  | j + 1 => by
    have ih := ddT_sorted h (j := j)
    unfold ddT
    split
    · exact ih
    · rename_i y hy
      split
      · exact ih
      · rename_i hne
        rw [List.pairwise_append]
        refine ⟨ih, List.pairwise_singleton _ _, fun a ha b hb => ?_⟩
        obtain rfl := List.mem_singleton.1 hb
        have ha := ddT_mem.1 ha
        rw [List.pairwise_iff_getElem] at h
        obtain ⟨i, hi⟩ := List.getElem?_of_mem ha
        rw [List.getElem?_take] at hi
        split at hi
        · rename_i hij
          obtain ⟨hj, ej⟩ := List.getElem?_eq_some_iff.1 hy
          obtain ⟨hi', ei⟩ := List.getElem?_eq_some_iff.1 hi
          have h1 := h i j hi' hj hij
          rw [ei, ej] at h1
          apply Classical.byContradiction
          intro hnl
          have e := ltA_total hnl h1
          subst e
          apply hne
          have hj1 : l[j - 1]? = some a := by
            have hjl : j - 1 < l.length := by omega
            rw [List.getElem?_eq_getElem hjl]
            congr 1
            by_cases e : i = j - 1
            · subst e; exact ei
            · have a1 := h i (j - 1) hi' hjl (by omega)
              have a2 := h (j - 1) j hjl hj (by omega)
              rw [ei] at a1
              rw [ej] at a2
              exact ltA_total a1 a2
          rw [decide_eq_true (by omega : 0 < j), decide_eq_true hj1]; rfl
        · cases hi
theorem ext_ltA : ∀ {a b : List Arc}, a.Pairwise ltA → b.Pairwise ltA → (∀ x, x ∈ a ↔ x ∈ b) → a = b
  | [], [], _, _, _ => rfl
  | [], y :: b, _, _, h => by have := (h y).2 List.mem_cons_self; cases this
  | x :: a, [], _, _, h => by have := (h x).1 List.mem_cons_self; cases this
  | x :: a, y :: b, ha, hb, h => by
    have hx := (List.pairwise_cons.1 ha).1
    have hy := (List.pairwise_cons.1 hb).1
    have e : x = y := by
      rcases List.mem_cons.1 ((h x).1 List.mem_cons_self) with h1 | h1
      · exact h1
      · rcases List.mem_cons.1 ((h y).2 List.mem_cons_self) with h2 | h2
        · exact h2.symm
        · exact absurd (ltA_trans (hy x h1) (hx y h2)) ltA_irrefl
    subst e
    congr 1
    refine ext_ltA (List.Pairwise.of_cons ha) (List.Pairwise.of_cons hb) fun z => ⟨fun hz => ?_, fun hz => ?_⟩
    · rcases List.mem_cons.1 ((h z).1 (List.mem_cons_of_mem _ hz)) with e | hz'
      · subst e; exact absurd (hx z hz) ltA_irrefl
      · exact hz'
    · rcases List.mem_cons.1 ((h z).2 (List.mem_cons_of_mem _ hz)) with e | hz'
      · subst e; exact absurd (hy z hz) ltA_irrefl
      · exact hz'
theorem setR_low {cs vs : List Value} {o p : Nat} (h : p ≤ o) (ho : o ≤ cs.length) : (setR cs o vs).take p = cs.take p := by
  unfold setR
  rw [List.append_assoc, List.take_append_of_le_length (by rw [List.length_take]; omega), List.take_take, Nat.min_eq_left h]
theorem flat_setR {f : Arc → List Value} (hf : ∀ x, (f x).length = 4) {m : List Arc} {i : Nat} (hi : i < m.length) {x : Arc} {cs : List Value} (hc : cs.take (m.length * 4) = m.flatMap f) (hl : m.length * 4 ≤ cs.length) : (setR cs (i * 4) (f x)).take (m.length * 4) = (m.set i x).flatMap f := by
  have hfl : ∀ (q : List Arc), (q.flatMap f).length = q.length * 4 := fun q => flat_length fun y _ => hf y
  apply List.ext_getElem?
  intro j
  have hset : ((m.set i x).flatMap f).length = m.length * 4 := by rw [hfl, List.length_set]
  by_cases hj : j < m.length * 4
  · have hd : j = j / 4 * 4 + j % 4 := by omega
    have hq : j % 4 < 4 := by omega
    have hi' : j / 4 < m.length := by omega
    rw [List.getElem?_take_of_lt hj]
    unfold setR
    obtain ⟨y, hy⟩ := get_of hi'
    have hcj : cs[j]? = (f y)[j % 4]? := by
      have := flat_get (f := f) (k := 4) (l := m) (i := j / 4) (j := j % 4) (fun x _ => hf x) hy hq
      rw [← hc, ← hd, List.getElem?_take_of_lt hj] at this
      exact this
    by_cases e : j / 4 = i
    · have hx : (m.set i x)[j / 4]? = some x := by rw [e, List.getElem?_set_self hi]
      have h2 := flat_get (f := f) (k := 4) (j := j % 4) (fun x _ => hf x) hx hq
      rw [← hd] at h2
      rw [h2, List.append_assoc, List.getElem?_append_right (by rw [List.length_take]; omega), List.length_take, Nat.min_eq_left (by omega), List.getElem?_append_left (by rw [hf]; omega)]
      congr 1
      omega
    · have hx : (m.set i x)[j / 4]? = some y := by rw [List.getElem?_set_ne (fun h => e h.symm)]; exact hy
      have h2 := flat_get (f := f) (k := 4) (j := j % 4) (fun x _ => hf x) hx hq
      rw [← hd] at h2
      rw [h2, ← hcj]
      by_cases hlt : j < i * 4
      · rw [List.append_assoc, List.getElem?_append_left (by rw [List.length_take]; omega), List.getElem?_take_of_lt hlt]
      · rw [List.getElem?_append_right (by rw [List.length_append, List.length_take, hf]; omega), List.length_append, List.length_take, hf, List.getElem?_drop]
        congr 1
        rw [Nat.min_eq_left (by omega)]; omega
  · rw [List.getElem?_eq_none (by rw [List.length_take]; omega), List.getElem?_eq_none (by rw [hset]; omega)]
section
variable {H0 H H' : Hp} {Q : Value → Hp → Prop}
theorem arc_eqB {x y : Arc} : (((x.a : Int) == y.a) && (((x.b : Int) == y.b) && (((x.kind : Int) == y.kind) && (((x.item : Int) == y.item) && true)))) = decide (x = y) := by
  obtain ⟨a, b, c, d⟩ := x
  obtain ⟨a', b', c', d'⟩ := y
  simp only [Arc.mk.injEq, Bool.and_true]
  by_cases h1 : a = a' <;> by_cases h2 : b = b' <;> by_cases h3 : c = c' <;> by_cases h4 : d = d' <;> simp [h1, h2, h3, h4]
theorem c78 {A : Option Addr} {c : Nat} {l : List Arc} (R : Row H0 H A l.length c 4 (l.flatMap arC)) (hx : Ext H0 H) (hs : l.length < huge) (hq : ∀ A' c' H', Row H0 H' A' (ddT l l.length).length c' 4 ((ddT l l.length).flatMap arC) → Ext H0 H' → Q (.slice A' (ddT l l.length).length c') H') :
    HCalls Tryz.prog 78 [.slice A l.length c] H Q := by
  refine f78.ok _ _ _ ?_
  unfold f78
  have hsl : SlAt arC H A l.length l := ⟨rfl, R.cells, hs⟩
  have hlt := hsl.lt
  have whole : ddT l l.length = l.take l.length → Q (.slice A l.length c) H := fun h => by
    rw [List.take_length] at h
    rw [h] at hq
    exact hq A c H R hx
  refine cndI (fun h => whole ?_) fun h => ?_
  · have h := of_decide_eq_true h
    match l, h with
    | [], _ => rfl
    | [x], _ => rfl
    | x :: y :: r, h => simp only [List.length_cons] at h; omega
  have h2 : 2 ≤ l.length := by have := of_decide_eq_false h; omega
  refine loop_to l.length (fun i s H' => s = ((((i + 1 : Nat) : Int), ()), ()) ∧ i + 1 ≤ l.length ∧ H' = H ∧ ddT l (i + 1) = l.take (i + 1)) ⟨rfl, by omega, rfl, ?_⟩ ?_
  · obtain ⟨x, hx0⟩ := get_of (l := l) (i := 0) (by omega)
    rw [take_snoc hx0]
    show ddT l (0 + 1) = _
    unfold ddT
    rw [hx0]
    rfl
  rintro i s H2 next hi ⟨rfl, hil, rfl, hdd⟩ hnext
  dsimp only
  by_cases hlt1 : i + 1 < l.length
  · obtain ⟨x, hxi⟩ := get_of hlt1
    obtain ⟨y, hyi⟩ := get_of (l := l) (i := i) (by omega)
    have em : IntKind.i64.wrap (((i + 1 : Nat) : Int) - 1) = (i : Int) := by rw [wrap_id (by omega) (by omega)]; omega
    have ei : IntKind.i64.wrap (((i + 1 : Nat) : Int) + 1) = ((i + 1 + 1 : Nat) : Int) := by rw [wrap_id (by omega) (by omega)]; rfl
    rw [em]
    refine cndT (decide_eq_true (by omega)) ⟨by omega, by omega, rd_ar hsl hxi fun q o _ k1 k2 k3 k4 => ⟨x.a, by simpa using k1, x.b, by simpa using k2, x.kind, by simpa using k3, x.item, by simpa using k4, by omega, by omega, rd_ar hsl hyi fun q' o' _ j1 j2 j3 j4 => ⟨y.a, by simpa using j1, y.b, by simpa using j2, y.kind, by simpa using j3, y.item, by simpa using j4, ?_⟩⟩⟩
    rw [arc_eqB]
    have hstep : ddT l (i + 1 + 1) = if decide (x = y) then ddT l (i + 1) else ddT l (i + 1) ++ [x] := by
      rw [ddT, hxi]
      show (if decide (0 < i + 1) && decide (l[i + 1 - 1]? = some x) then _ else _) = _
      rw [Nat.add_sub_cancel, hyi, decide_eq_true (by omega : 0 < i + 1), Bool.true_and]
      have : decide (some y = some x) = decide (x = y) := decide_eq_decide.2 ⟨fun h => (Option.some.inj h).symm, fun h => by rw [h]⟩
      rw [this]
    refine cndI (fun e => ⟨by omega, by omega, ?_⟩) fun e => ⟨rfl, hnext _ _ (by omega) ⟨by rw [ei], by omega, rfl, by rw [hstep, e, hdd, take_snoc hxi]; rfl⟩⟩
    rw [e, if_pos rfl] at hstep
    obtain ⟨_, hnc, hbad | ⟨b, cs, ty, rfl, hb, hcl, ht, hb0⟩⟩ := R
    · omega
    have etn : (((i + 1 : Nat) : Int)).toNat = i + 1 := by omega
    rw [etn]
    have hcd : decide (c = i + 1) = false := decide_eq_false (by omega)
    -- the second loop: k numbers kept, j looked at
    refine loop_to l.length (fun t s H' => ∃ (k : Nat) (m : List Arc) (cs' : List Value), s = (((k : Int), (((t + 1 : Nat) : Int), ())), ()) ∧ i + 1 + (t + 1) ≤ l.length ∧ k = (ddT l (i + 1 + (t + 1))).length ∧ k < i + 1 + (t + 1) ∧ m.length = l.length ∧ m.take k = ddT l (i + 1 + (t + 1)) ∧ (∀ p, k ≤ p → m[p]? = l[p]?) ∧ H' b = some (.cells cs'.toArray ty (0, 0)) ∧ cs'.length = cs.length ∧ cs'.take (l.length * 4) = m.flatMap arC ∧ ∀ q, q ≠ b → H' q = H2 q)
      ⟨i + 1, l, cs, by simp, by omega, by rw [hstep, hdd, List.length_take]; omega, by omega, rfl, by rw [hstep, hdd], fun p _ => rfl, hb, rfl, ht, fun q _ => rfl⟩ ?_
    rintro t s H3 next2 hti ⟨k, m, cs', rfl, htl, hk, hklt, hml, hmt, hmr, hb3, hcl3, ht3, ho3⟩ hnext2
    dsimp only
    have hsl3 : SlAt arC H3 (some ⟨b, 0, none⟩) l.length m := ⟨hml.symm, .inr ⟨b, 0, rfl, fun j v hj => by
      rw [cl_cells hb3, Nat.zero_add]
      rw [← ht3, List.getElem?_take] at hj
      split at hj
      · exact hj
      · cases hj⟩, by rw [hml]; exact hs⟩
    have hcut := SlAt.cut (k := 4) (p := i + 1) (m := l.length - (i + 1)) arC_len hsl3 hnc (by omega)
    have hlen2 : ((m.drop (i + 1)).take (l.length - (i + 1))).length = l.length - (i + 1) := by rw [List.length_take, List.length_drop]; omega
    have get2 : ∀ p, p < l.length - (i + 1) → ((m.drop (i + 1)).take (l.length - (i + 1)))[p]? = m[i + 1 + p]? := fun p hp => by rw [List.getElem?_take_of_lt hp, List.getElem?_drop]
    by_cases hlt2 : t + 1 < l.length - (i + 1)
    · obtain ⟨z, hz⟩ := get_of (l := l) (i := i + 1 + (t + 1)) (by omega)
      obtain ⟨z0, hz0⟩ := get_of (l := l) (i := i + 1 + t) (by omega)
      have em2 : IntKind.i64.wrap (((t + 1 : Nat) : Int) - 1) = (t : Int) := by rw [wrap_id (by omega) (by omega)]; omega
      have ei2 : IntKind.i64.wrap (((t + 1 : Nat) : Int) + 1) = ((t + 1 + 1 : Nat) : Int) := by rw [wrap_id (by omega) (by omega)]; rfl
      have ek2 : IntKind.i64.wrap ((k : Int) + 1) = ((k + 1 : Nat) : Int) := by rw [wrap_id (by omega) (by omega)]; rfl
      have hz' := (get2 (t + 1) hlt2).trans ((hmr _ (by omega)).trans hz)
      have hz0' := (get2 t (by omega)).trans ((hmr _ (by omega)).trans hz0)
      have hst2 : ddT l (i + 1 + (t + 1) + 1) = if decide (z = z0) then ddT l (i + 1 + (t + 1)) else ddT l (i + 1 + (t + 1)) ++ [z] := by
        rw [ddT, hz]
        show (if decide (0 < i + 1 + (t + 1)) && decide (l[i + 1 + (t + 1) - 1]? = some z) then _ else _) = _
        rw [show i + 1 + (t + 1) - 1 = i + 1 + t by omega, hz0, decide_eq_true (by omega : 0 < i + 1 + (t + 1)), Bool.true_and]
        have : decide (some z0 = some z) = decide (z = z0) := decide_eq_decide.2 ⟨fun h => (Option.some.inj h).symm, fun h => by rw [h]⟩
        rw [this]
      rw [em2]
      refine cndT (decide_eq_true (by omega)) (jn_intro (fun J => ∀ (k' : Nat) (m' : List Arc) (cs2 : List Value) H', k' = (ddT l (i + 1 + (t + 1) + 1)).length → k' < i + 1 + (t + 1) + 1 → m'.length = l.length → m'.take k' = ddT l (i + 1 + (t + 1) + 1) → (∀ p, k' ≤ p → m'[p]? = l[p]?) → H' b = some (.cells cs2.toArray ty (0, 0)) → cs2.length = cs.length → cs2.take (l.length * 4) = m'.flatMap arC → (∀ q, q ≠ b → H' q = H2 q) → J (k' : Int) H')
        (fun k' m' cs2 H' a1 a2 a3 a4 a5 a6 a7 a8 a9 => ⟨rfl, hnext2 _ _ (by omega) ⟨k', m', cs2, by rw [ei2], by omega, a1, a2, a3, a4, a5, a6, a7, a8, a9⟩⟩) fun J hJ => ⟨by omega, by omega, rd_ar hcut hz' fun q o _ k1 k2 k3 k4 => ⟨z.a, by simpa using k1, z.b, by simpa using k2, z.kind, by simpa using k3, z.item, by simpa using k4, by omega, by omega, rd_ar hcut hz0' fun q' o' _ j1 j2 j3 j4 => ⟨z0.a, by simpa using j1, z0.b, by simpa using j2, z0.kind, by simpa using j3, z0.item, by simpa using j4, ?_⟩⟩⟩)
      rw [arc_eqB]
      refine cndI (fun e2 => ⟨by omega, by omega, rd_ar hcut hz' fun q o _ k1 k2 k3 k4 => ⟨z.a, by simpa using k1, z.b, by simpa using k2, z.kind, by simpa using k3, z.item, by simpa using k4, by omega, by omega, ?_⟩⟩) fun e2 => ?_
      · have e2 : decide (z = z0) = false := by simpa using e2
        rw [e2, if_neg (by decide)] at hst2
        have hkl : k < m.length := by omega
        refine ⟨cs', ty, hb3, ?_, ?_⟩
        · rw [show ((k : Int)).toNat = k from by omega]
          simp only [List.length_cons, List.length_nil]; omega
        · rw [ek2]
          refine hJ (k + 1) (m.set k z) (setR cs' (k * 4) (arC z)) _ (by rw [hst2, List.length_append, ← hk]; rfl) (by omega) (by rw [List.length_set]; exact hml) ?_ (fun p hp => ?_) ?_ ?_ ?_ (fun q hq' => by rw [upd_off hq']; exact ho3 q hq')
          · rw [hst2, ← hmt, List.take_add_one, List.getElem?_set_self hkl, List.take_set_of_le (Nat.le_refl k)]; rfl
          · rw [List.getElem?_set_ne (by omega)]; exact hmr p (by omega)
          · rw [upd_at]
            simp only [Nat.zero_add, Int.toNat_natCast]; rfl
          · rw [setR_length (by show k * 4 + 4 ≤ _; omega)]; exact hcl3
          · rw [← hml]; exact flat_setR arC_len hkl (by rw [hml]; exact ht3) (by rw [hml]; omega)
      · have e2 : decide (z = z0) = true := by simpa using e2
        rw [e2, if_pos rfl] at hst2
        exact hJ k m cs' H3 (by rw [hst2]; exact hk) (by omega) hml (by rw [hst2]; exact hmt) hmr hb3 hcl3 ht3 ho3
    · have et : i + 1 + (t + 1) = l.length := by omega
      rw [et] at hk hklt hmt
      have hkt : (((k : Nat) : Int)).toNat = k := by omega
      refine cndF (decide_eq_false (by omega)) (jn_intro (fun J => ∀ (cs2 : List Value) (H' : Hp), H' b = some (.cells cs2.toArray ty (0, 0)) → cs2.length = cs.length → cs2.take (k * 4) = (ddT l l.length).flatMap arC → (∀ q, q ≠ b → H' q = H2 q) → J H') (fun cs2 H' a1 a2 a3 a4 => ⟨by omega, by omega, ?_⟩) fun J hJ => ⟨by omega, by omega, fun h0 => ?_, fun h0 => ?_⟩)
      · rw [hkt, Nat.sub_zero, Nat.sub_zero, decide_eq_false (by omega), hk]
        have e0 : cutA (some (⟨b, 0, none⟩ : Addr)) (0 * 4) false = some ⟨b, 0, none⟩ := rfl
        rw [e0]
        refine hq _ c H' ⟨flat_length fun y _ => arC_len y, by omega, .inr ⟨b, cs2, ty, rfl, a1, by rw [a2]; exact hcl, by rw [← hk]; exact a3, hb0⟩⟩ fun q o hq' => ?_
        rw [a4 q fun e => by subst e; rw [hb0] at hq'; cases hq']
        exact hx q o hq'
      · rw [hkt] at h0; omega
      · rw [hkt, decide_eq_false (by omega : ¬ c = k)]
        have e0 : cutA (some (⟨b, 0, none⟩ : Addr)) (k * 4) false = some ⟨b, k * 4, none⟩ := by
          unfold cutA
          simp only [Option.map_some, Option.some.injEq]
          unfold Addr.add
          by_cases h : k * 4 = 0
          · rw [h]; rfl
          · simp [h]
        rw [e0]
        have hzl : ((List.replicate (l.length - k) [Value.int .i64 0, .int .i64 0, .int .i64 0, .int .i64 0]).flatten).length = (l.length - k) * 4 := by
          rw [List.length_flatten, List.map_replicate, List.sum_replicate_nat]; rfl
        refine ⟨cs', ty, hb3, by rw [hzl]; omega, hJ _ _ upd_at ?_ ?_ fun q hq' => by rw [upd_off hq']; exact ho3 q hq'⟩
        · rw [setR_length (by rw [hzl]; omega)]; exact hcl3
        · rw [setR_low (Nat.le_refl _) (by omega), ← hmt]
          have : cs'.take (k * 4) = (cs'.take (l.length * 4)).take (k * 4) := by rw [List.take_take, Nat.min_eq_left (by omega)]
          rw [this, ht3]
          have : m.flatMap arC = (m.take k).flatMap arC ++ (m.drop k).flatMap arC := by rw [← List.flatMap_append, List.take_append_drop]
          rw [this, List.take_append_of_le_length (by rw [flat_length (fun y _ => arC_len y), List.length_take]; omega), List.take_of_length_le (by rw [flat_length (fun y _ => arC_len y), List.length_take]; omega)]
  · have e : i + 1 = l.length := by omega
    rw [e] at hdd
    exact cndF (decide_eq_false (by omega)) (whole hdd)
end
end Go.Proofs.YtibhpoikhkokiaaGreat.Hw

/- slices.Sort at []int: the contracts of the kit's shelf, laid at this program (by the kit's own tool). -/
namespace Go.Proofs
open Go.Shelf
def Tryz.lays189_ren : Go.Shelf.Ren := ⟨fun | 189 => 79 | 125 => 101 | 257 => 104 | 128 => 121 | 129 => 122 | 294 => 124 | 295 => 125 | 296 => 126 | 297 => 127 | 298 => 128 | 299 => 129 | 216 => 130 | 300 => 131 | 301 => 132 | 328 => 141 | 329 => 137 | 330 => 138 | 331 => 142 | 332 => 143 | 215 => 123 | 343 => 145 | n => n, fun | 28 => 23 | 3 => 3 | 46 => 127 | 0 => 0 | 51 => 141 | 53 => 143 | 4 => 4 | 183 => 135 | 182 => 134 | 131 => 114 | 5 => 5 | 9 => 9 | 218 => 149 | 222 => 153 | 228 => 157 | 229 => 158 | n => n, fun | n => n⟩
theorem Tryz.lays189 : Go.Proofs.Lays.n189 Tryz.prog Tryz.lays189_ren := {
  mixed := by kernel_rfl
  f125 := Tryz.func101.trans (congrArg some (by kernel_rfl))
  f128 := Tryz.func121.trans (congrArg some (by kernel_rfl))
  f129 := Tryz.func122.trans (congrArg some (by kernel_rfl))
  f189 := Tryz.func79.trans (congrArg some (by kernel_rfl))
  f215 := Tryz.func123.trans (congrArg some (by kernel_rfl))
  f216 := Tryz.func130.trans (congrArg some (by kernel_rfl))
  f257 := Tryz.func104.trans (congrArg some (by kernel_rfl))
  f294 := Tryz.func124.trans (congrArg some (by kernel_rfl))
  f295 := Tryz.func125.trans (congrArg some (by kernel_rfl))
  f296 := Tryz.func126.trans (congrArg some (by kernel_rfl))
  f297 := Tryz.func127.trans (congrArg some (by kernel_rfl))
  f298 := Tryz.func128.trans (congrArg some (by kernel_rfl))
  f299 := Tryz.func129.trans (congrArg some (by kernel_rfl))
  f300 := Tryz.func131.trans (congrArg some (by kernel_rfl))
  f301 := Tryz.func132.trans (congrArg some (by kernel_rfl))
  f328 := Tryz.func141.trans (congrArg some (by kernel_rfl))
  f329 := Tryz.func137.trans (congrArg some (by kernel_rfl))
  f330 := Tryz.func138.trans (congrArg some (by kernel_rfl))
  f331 := Tryz.func142.trans (congrArg some (by kernel_rfl))
  f332 := Tryz.func143.trans (congrArg some (by kernel_rfl))
  f343 := Tryz.func145.trans (congrArg some (by kernel_rfl))
  t0 := Tryz.underlying0
  a0 := Tryz.isAgg0
  z0 := Tryz.sizeOf0
  v0 := Tryz.zeroValue0
  t3 := Tryz.underlying3
  a3 := Tryz.isAgg3
  z3 := Tryz.sizeOf3
  v3 := Tryz.zeroValue3
  t4 := Tryz.underlying4
  a4 := Tryz.isAgg4
  z4 := Tryz.sizeOf4
  v4 := Tryz.zeroValue4
  t5 := Tryz.underlying5
  a5 := Tryz.isAgg5
  z5 := Tryz.sizeOf5
  v5 := Tryz.zeroValue5
  t9 := Tryz.underlying9
  a9 := Tryz.isAgg9
  z9 := Tryz.sizeOf9
  v9 := Tryz.zeroValue9
  t28 := Tryz.underlying23
  a28 := Tryz.isAgg23
  z28 := Tryz.sizeOf23
  v28 := Tryz.zeroValue23
  t46 := Tryz.underlying127
  a46 := Tryz.isAgg127
  z46 := Tryz.sizeOf127
  v46 := Tryz.zeroValue127
  t51 := Tryz.underlying141
  a51 := Tryz.isAgg141
  z51 := Tryz.sizeOf141
  v51 := Tryz.zeroValue141
  t53 := Tryz.underlying143
  a53 := Tryz.isAgg143
  z53 := Tryz.sizeOf143
  v53 := Tryz.zeroValue143
  t131 := Tryz.underlying114
  a131 := Tryz.isAgg114
  z131 := Tryz.sizeOf114
  v131 := Tryz.zeroValue114
  t182 := Tryz.underlying134
  a182 := Tryz.isAgg134
  z182 := Tryz.sizeOf134
  v182 := Tryz.zeroValue134
  t183 := Tryz.underlying135
  a183 := Tryz.isAgg135
  z183 := Tryz.sizeOf135
  v183 := Tryz.zeroValue135
  t218 := Tryz.underlying149
  a218 := Tryz.isAgg149
  z218 := Tryz.sizeOf149
  v218 := Tryz.zeroValue149
  t222 := Tryz.underlying153
  a222 := Tryz.isAgg153
  z222 := Tryz.sizeOf153
  v222 := Tryz.zeroValue153
  t228 := Tryz.underlying157
  a228 := Tryz.isAgg157
  z228 := Tryz.sizeOf157
  v228 := Tryz.zeroValue157
  t229 := Tryz.underlying158
  a229 := Tryz.isAgg158
  z229 := Tryz.sizeOf158
  v229 := Tryz.zeroValue158 }
open Go.Sort Go.RowKit in
theorem Tryz.slices_Sort_int (blk off cap : Nat) (zs : List Int) (w : World) (hH : Holds (Value.int .i64) w blk off zs.toArray) (hblk : blk < w.heap.size) (hsz : zs.length < 4611686018427387904) :
    Calls Tryz.prog 79 #[.slice (some ⟨blk, off, none⟩) zs.length cap] w fun e w' =>
      e = .returned (.tuple #[]) ∧ ∃ n os, w' = grow (putRow (Value.int .i64) (Sort.ahead w n) blk off (zs.mergeSort fun x y => decide (x ≤ y)).toArray) os := Any.slices_Sort_int Tryz.lays189 blk off cap zs w hH hblk hsz
open Go.RowKit Go.Sort in
/-- .. and plain. (LAID: no walk: one application.) -/
theorem Tryz.slices_Sort_int_none (p : Option Addr) (cap : Nat) (w : World) :
    Calls Tryz.prog 79 #[.slice p 0 cap] w fun e w' => e = .returned (.tuple #[]) ∧ w' = w := Any.slices_Sort_int_none Tryz.lays189 p cap w
end Go.Proofs

/- Histories: Sort of whole numbers, by the kit's contract. -/
set_option linter.unusedVariables false
set_option linter.unusedSimpArgs false
namespace Go.Proofs.YtibhpoikhkokiaaGreat.Hw
open Go Go.Proofs Go.Sort
theorem inC_len {l : List Int} : (l.flatMap inC).length = l.length * 1 := flat_length (fun _ _ => rfl)
/-- Numbers on a block of their own. -/
def RowI (H0 H : Hp) (A : Option Addr) (c : Nat) (l : List Int) : Prop := Row H0 H A l.length c 1 (l.flatMap inC)
theorem inC_get {l : List Int} {j : Nat} : (l.flatMap inC)[j]? = (l[j]?).map (fun x => Value.int .i64 x) := by
  induction l generalizing j with
  | nil => simp
  | cons a r ih =>
    rw [List.flatMap_cons]
    cases j with
    | zero => rfl
    | succ j => exact ih
theorem inC_map {l : List Int} : l.flatMap inC = l.map (fun x => Value.int .i64 x) := by
  apply List.ext_getElem?; intro j; rw [inC_get, List.getElem?_map]
section
variable {H0 H : Hp} {Q : Value → Hp → Prop} {w : World}
theorem put_cells {d : List Int} {cs : List Value} (h : d.length ≤ cs.length) : putCells (Value.int .i64) 0 d.toArray cs.toArray = (d.flatMap inC ++ cs.drop d.length).toArray := by
  apply Array.ext'
  unfold putCells
  rw [Array.toList_mapIdx]
  apply List.ext_getElem?
  intro j
  simp only [List.getElem?_mapIdx, Nat.zero_le, true_and, Nat.zero_add, List.size_toArray, Nat.sub_zero]
  by_cases hj : j < d.length
  · rw [List.getElem?_append_left (by rw [inC_len]; omega), inC_get, List.getElem?_eq_getElem (by omega : j < cs.length), List.getElem?_eq_getElem hj]
    simp [hj]
  · rw [List.getElem?_append_right (by rw [inC_len]; omega), inC_len, List.getElem?_drop, show d.length + (j - d.length * 1) = j by omega]
    cases hc : cs[j]? with
    | none => simp [hc]
    | some v => simp [hc, hj]
/-- What a call of the kit's contract does to a row. -/
theorem row_put {A : Option Addr} {b n c m : Nat} {cs : List Value} {ty : Nat} {d : List Int} {os : Array Obj} (hw : Has w H) (hb : H b = some (.cells cs.toArray ty (0, 0))) (h : d.length ≤ cs.length) :
    Has (grow (putRow (Value.int .i64) (Sort.ahead w m) b 0 d.toArray) os) (upd b (.cells (d.flatMap inC ++ cs.drop d.length).toArray ty (0, 0)) H) ∧ Fr H w (grow (putRow (Value.int .i64) (Sort.ahead w m) b 0 d.toArray) os) ∧ New H w (upd b (.cells (d.flatMap inC ++ cs.drop d.length).toArray ty (0, 0)) H) := by
  have hwb := hw b _ hb
  have hlt : b < w.heap.size := (Array.getElem?_eq_some_iff.1 hwb).1
  have hat : ∀ x, x < w.heap.size → (grow (putRow (Value.int .i64) (Sort.ahead w m) b 0 d.toArray) os).heap[x]? = if x = b then some (.cells (d.flatMap inC ++ cs.drop d.length).toArray ty (0, 0)) else w.heap[x]? := fun x hx => by
    unfold grow putRow mapBlock Sort.ahead
    simp only
    rw [Array.getElem?_append_left (by simpa using hx), Array.getElem?_modify]
    by_cases e : b = x
    · subst e
      rw [if_pos rfl, if_pos rfl, hwb]
      simp only [Option.map_eq_map, Option.map_some, onCells]
      rw [put_cells h]
    · rw [if_neg e, if_neg (fun e' => e e'.symm)]
  refine ⟨fun x o hx => ?_, ⟨rfl, rfl, rfl, ?_, fun x hx hn => ?_⟩, fun x hx => ?_⟩
  · rcases upd_some hx with ⟨rfl, rfl⟩ | ⟨hne, hx⟩
    · rw [hat x hlt, if_pos rfl]
    · rw [hat x (Array.getElem?_eq_some_iff.1 (hw x o hx)).1, if_neg hne]; exact hw x o hx
  · unfold grow putRow mapBlock Sort.ahead; simp
  · rw [hat x hx, if_neg (fun e => by subst e; rw [hb] at hn; cases hn)]
  · by_cases e : x = b
    · subst e; left; rw [hb]; simp
    · rw [upd_other e] at hx; exact .inl hx
theorem row_holds {b c : Nat} {cs : List Value} {ty : Nat} {l : List Int} (hw : Has w H) (hb : H b = some (.cells cs.toArray ty (0, 0))) (ht : cs.take (l.length * 1) = l.flatMap inC) : Holds (Value.int .i64) w b 0 l.toArray := fun j hj => by
  have hj' : j < l.length := by simpa using hj
  have hwb := hw b _ hb
  refine ⟨?_, frz_of w hwb⟩
  rw [cl_of w hwb, Nat.zero_add]
  have h1 : (cs.take (l.length * 1))[j]? = cs[j]? := by rw [List.getElem?_take_of_lt (by omega)]
  rw [← h1, ht, inC_get, List.getElem?_eq_getElem hj']
  simp [hj']
def sortM (l : List Int) : List Int := l.mergeSort fun x y => decide (x ≤ y)
theorem c79 {A : Option Addr} {c : Nat} {l : List Int} (R : RowI H0 H A c l) (hx : Ext H0 H) (hs : l.length < big) (hq : ∀ H', RowI H0 H' A c (sortM l) → (sortM l).length = l.length → Ext H0 H' → (∀ b, H' b ≠ H b → rowB A b) → Q (.tuple #[]) H') : HCalls Tryz.prog 79 [.slice A l.length c] H Q := by
  intro w hw
  have hlen : (sortM l).length = l.length := List.length_mergeSort _
  by_cases h0 : l = []
  · subst h0
    refine Calls.mono (Any.slices_Sort_int_none Tryz.lays189 A c w) ?_
    rintro e w' ⟨rfl, rfl⟩
    exact ⟨_, H, rfl, hq H (by simpa [sortM] using R) hlen hx (fun b hb => absurd rfl hb), hw, ⟨rfl, rfl, rfl, Nat.le_refl _, fun _ _ _ => rfl⟩, fun b hb => .inl hb⟩
  obtain ⟨h1, h2, h3 | ⟨b, cs, ty, rfl, hb, hcl, ht, hz⟩⟩ := R
  · have : 0 < l.length := List.length_pos_iff.2 h0
    omega
  unfold big at hs
  have hlt : b < w.heap.size := (Array.getElem?_eq_some_iff.1 (hw b _ hb)).1
  refine Calls.mono (Tryz.slices_Sort_int b 0 c l w (row_holds (c := c) hw hb ht) hlt (by omega)) ?_
  rintro e w' ⟨rfl, m, os, rfl⟩
  obtain ⟨g1, g2, g3⟩ := row_put (A := none) (n := 0) (c := 0) (m := m) (os := os) (d := sortM l) hw hb (by rw [hlen]; omega)
  refine ⟨_, _, rfl, hq _ ⟨by rw [inC_len], by rw [hlen]; exact h2, .inr ⟨b, _, ty, rfl, upd_at, ?_, ?_, hz⟩⟩ hlen (hx.upd hz) (fun q hq' => ?_), g1, g2, g3⟩
  · rw [List.length_append, inC_len, List.length_drop, hlen]; omega
  · rw [List.take_left' (by rw [inC_len])]
  · by_cases e : q = b
    · subst e; exact ⟨_, _, rfl⟩
    · exact absurd (upd_off e) hq'
end
end Go.Proofs.YtibhpoikhkokiaaGreat.Hw

/- slices.SortFunc of arcs: the kit's contract, laid at this program (by the kit's own tool). -/
namespace Go.Proofs
open Go.Shelf
def Tryz.sortArc_ren : Go.Shelf.Ren := ⟨fun | 6 => 76 | 15 => 101 | 14 => 100 | 28 => 121 | 29 => 122 | 20 => 113 | 21 => 114 | 22 => 115 | 23 => 116 | 24 => 117 | 25 => 118 | 26 => 119 | 27 => 120 | 46 => 136 | 47 => 137 | 48 => 138 | 49 => 139 | 50 => 140 | 57 => 144 | n => n, fun | 22 => 39 | 24 => 52 | 25 => 105 | 3 => 3 | 39 => 127 | 0 => 0 | 53 => 141 | 55 => 143 | 4 => 4 | 46 => 135 | 45 => 134 | 50 => 114 | 5 => 5 | 9 => 9 | 66 => 149 | 70 => 153 | 76 => 157 | 77 => 158 | n => n, fun | n => n⟩
theorem Tryz.sortArc : Go.Proofs.SlLaysF0.n6 Tryz.prog Tryz.sortArc_ren := {
  mixed := by kernel_rfl
  f6 := ⟨Tryz.f76.name, by decide, Tryz.func76.trans (congrArg some (by kernel_rfl))⟩
  f14 := ⟨Tryz.f100.name, by decide, Tryz.func100.trans (congrArg some (by kernel_rfl))⟩
  f15 := Tryz.func101.trans (congrArg some (by kernel_rfl))
  f20 := ⟨Tryz.f113.name, by decide, Tryz.func113.trans (congrArg some (by kernel_rfl))⟩
  f21 := ⟨Tryz.f114.name, by decide, Tryz.func114.trans (congrArg some (by kernel_rfl))⟩
  f22 := ⟨Tryz.f115.name, by decide, Tryz.func115.trans (congrArg some (by kernel_rfl))⟩
  f23 := ⟨Tryz.f116.name, by decide, Tryz.func116.trans (congrArg some (by kernel_rfl))⟩
  f24 := ⟨Tryz.f117.name, by decide, Tryz.func117.trans (congrArg some (by kernel_rfl))⟩
  f25 := ⟨Tryz.f118.name, by decide, Tryz.func118.trans (congrArg some (by kernel_rfl))⟩
  f26 := ⟨Tryz.f119.name, by decide, Tryz.func119.trans (congrArg some (by kernel_rfl))⟩
  f27 := ⟨Tryz.f120.name, by decide, Tryz.func120.trans (congrArg some (by kernel_rfl))⟩
  f28 := Tryz.func121.trans (congrArg some (by kernel_rfl))
  f29 := Tryz.func122.trans (congrArg some (by kernel_rfl))
  f46 := ⟨Tryz.f136.name, by decide, Tryz.func136.trans (congrArg some (by kernel_rfl))⟩
  f47 := Tryz.func137.trans (congrArg some (by kernel_rfl))
  f48 := Tryz.func138.trans (congrArg some (by kernel_rfl))
  f49 := ⟨Tryz.f139.name, by decide, Tryz.func139.trans (congrArg some (by kernel_rfl))⟩
  f50 := ⟨Tryz.f140.name, by decide, Tryz.func140.trans (congrArg some (by kernel_rfl))⟩
  f57 := ⟨Tryz.f144.name, by decide, Tryz.func144.trans (congrArg some (by kernel_rfl))⟩
  t0 := Tryz.underlying0
  a0 := Tryz.isAgg0
  z0 := Tryz.sizeOf0
  v0 := Tryz.zeroValue0
  t3 := Tryz.underlying3
  a3 := Tryz.isAgg3
  z3 := Tryz.sizeOf3
  v3 := Tryz.zeroValue3
  t4 := Tryz.underlying4
  a4 := Tryz.isAgg4
  z4 := Tryz.sizeOf4
  v4 := Tryz.zeroValue4
  t5 := Tryz.underlying5
  a5 := Tryz.isAgg5
  z5 := Tryz.sizeOf5
  v5 := Tryz.zeroValue5
  t9 := Tryz.underlying9
  a9 := Tryz.isAgg9
  z9 := Tryz.sizeOf9
  v9 := Tryz.zeroValue9
  t22 := Tryz.underlying39
  a22 := Tryz.isAgg39
  z22 := Tryz.sizeOf39
  v22 := Tryz.zeroValue39
  t25 := Tryz.underlying105
  a25 := Tryz.isAgg105
  z25 := Tryz.sizeOf105
  v25 := Tryz.zeroValue105
  t39 := Tryz.underlying127
  a39 := Tryz.isAgg127
  z39 := Tryz.sizeOf127
  v39 := Tryz.zeroValue127
  t45 := Tryz.underlying134
  a45 := Tryz.isAgg134
  z45 := Tryz.sizeOf134
  v45 := Tryz.zeroValue134
  t46 := Tryz.underlying135
  a46 := Tryz.isAgg135
  z46 := Tryz.sizeOf135
  v46 := Tryz.zeroValue135
  t50 := Tryz.underlying114
  a50 := Tryz.isAgg114
  z50 := Tryz.sizeOf114
  v50 := Tryz.zeroValue114
  t53 := Tryz.underlying141
  a53 := Tryz.isAgg141
  z53 := Tryz.sizeOf141
  v53 := Tryz.zeroValue141
  t55 := Tryz.underlying143
  a55 := Tryz.isAgg143
  z55 := Tryz.sizeOf143
  v55 := Tryz.zeroValue143
  t66 := Tryz.underlying149
  a66 := Tryz.isAgg149
  z66 := Tryz.sizeOf149
  v66 := Tryz.zeroValue149
  t70 := Tryz.underlying153
  a70 := Tryz.isAgg153
  z70 := Tryz.sizeOf153
  v70 := Tryz.zeroValue153
  t76 := Tryz.underlying157
  a76 := Tryz.isAgg157
  z76 := Tryz.sizeOf157
  v76 := Tryz.zeroValue157
  t77 := Tryz.underlying158
  a77 := Tryz.isAgg158
  z77 := Tryz.sizeOf158
  v77 := Tryz.zeroValue158 }
end Go.Proofs
