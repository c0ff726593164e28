/- Wb Wc Wd (joined by merge.py) -/
import Derived.Test.YtibhpoikhkokiaaGreatOnl11
/- The document's histories: Valid (c21). -/
set_option linter.unusedVariables false
set_option linter.unusedSimpArgs false
set_option linter.unusedSectionVars false
set_option maxRecDepth 20000
namespace Go.Proofs.YtibhpoikhkokiaaGreat.Hw
open Go Go.Proofs
/-- What the document knows of a transaction. -/
structure StV where
  b : Bool
  e : Bool
  s : Int
  A : Option Addr
  c : Nat
  w : List Int
def stC4 (v : StV) : List Value := [.bool v.b, .bool v.e, .int .i64 v.s, .slice v.A v.w.length v.c]
structure StAt (H0 H : Hp) (g : Nat) (f : Nat → StV) : Prop where
  ext : Ext H0 H
  g0 : H0 g = none
  arr : PArr H g 84 4 201 (fun t => stC4 (f t))
  row : ∀ t, t < 201 → Row H0 H (f t).A (f t).w.length (f t).c 1 ((f t).w.flatMap inC)
  ng : ∀ t, t < 201 → ¬ rowB (f t).A g
  dj : ∀ t u, t < 201 → u < 201 → t ≠ u → ∀ q, rowB (f t).A q → ¬ rowB (f u).A q
structure StOf (p : List Ev) (f : Nat → StV) : Prop where
  b : ∀ t, t < 201 → (f t).b = begunM p t
  e : ∀ t, t < 201 → (f t).e = endedM p t
  s : ∀ t, t < 201 → (f t).s = stmtM p t
  w : ∀ t, t < 201 → ∀ i, i ∈ (f t).w ↔ wroteM p t i = true
  l : ∀ t, t < 201 → (f t).w.length ≤ p.length
theorem StOf.step {p : List Ev} {x : Ev} {f f' : Nat → StV} {t : Nat} (h : StOf p f) (ht : (t : Int) = x.txn) (hoff : ∀ u, u ≠ t → f' u = f u) (hb : (f' t).b = ((f t).b || x.op == 1)) (he : (f' t).e = ((f t).e || (x.op == 4 || x.op == 5)))
    (hs : (f' t).s = if x.op == 2 || x.op == 3 then x.stmt else (f t).s) (hw : ∀ i, i ∈ (f' t).w ↔ i ∈ (f t).w ∨ (x.op = 3 ∧ x.item = i)) (hl : (f' t).w.length ≤ p.length + 1) : StOf (p ++ [x]) f' := by
  have off : ∀ u : Nat, u ≠ t → (x.txn == (u : Int)) = false := fun u hu => by
    have : x.txn ≠ (u : Int) := by omega
    simpa using this
  have on : (x.txn == (t : Int)) = true := by simpa using ht.symm
  refine ⟨fun u hu => ?_, fun u hu => ?_, fun u hu => ?_, fun u hu i => ?_, fun u hu => ?_⟩
  · rw [begun_snoc]
    unfold isB
    by_cases e : u = t
    · rw [e, hb, on, h.b t (by omega), Bool.and_true]
    · rw [hoff u e, off u e, Bool.and_false, Bool.or_false]; exact h.b u hu
  · rw [ended_snoc]
    unfold isE
    by_cases e : u = t
    · rw [e, he, on, h.e t (by omega), Bool.and_true]
    · rw [hoff u e, off u e, Bool.and_false, Bool.or_false]; exact h.e u hu
  · rw [stmt_snoc]
    unfold stmtStep
    by_cases e : u = t
    · rw [e, hs, on, h.s t (by omega), Bool.and_true]
    · rw [hoff u e, off u e, Bool.and_false, if_neg (by decide)]; exact h.s u hu
  · rw [wrote_snoc, Bool.or_eq_true, isW_iff]
    by_cases e : u = t
    · rw [e, hw, h.w t (by omega)]
      exact or_congr_right ⟨fun h => ⟨h.1, ht.symm, h.2⟩, fun h => ⟨h.1, h.2.2⟩⟩
    · rw [hoff u e, h.w u hu]
      constructor
      · exact .inl
      · rintro (h1 | h1)
        · exact h1
        · have := h1.2.1; omega
  · rw [List.length_append, List.length_singleton]
    by_cases e : u = t
    · rw [e]; exact hl
    · rw [hoff u e]; have := h.l u hu; omega
def setV (f : Nat → StV) (t : Nat) (v : StV) : Nat → StV := fun u => if u = t then v else f u
theorem setV_at {f : Nat → StV} {t : Nat} {v : StV} : setV f t v t = v := if_pos rfl
theorem setV_off {f : Nat → StV} {t u : Nat} {v : StV} (h : u ≠ t) : setV f t v u = f u := if_neg h
section
variable {H H' H0 : Hp} {Q : Value → Hp → Prop} {g : Nat} {f : Nat → StV}
theorem StAt.cell (S : StAt H0 H g f) {t j : Nat} {v : Value} (ht : t < 201) (hv : (stC4 (f t))[j]? = some v) : cl H g (0 + t * 4 + j) = some v := by
  rw [Nat.zero_add]; exact S.arr.get ht hv
theorem StAt.grow (S : StAt H0 H g f) (hx : Ext H H') : StAt H0 H' g f :=
  ⟨S.ext.trans hx, S.g0, S.arr.keep (ext_at hx S.arr.live), fun t ht => (S.row t ht).keep fun q hq => ext_at hx ((S.row t ht).lt hq).1, S.ng, S.dj⟩
theorem StAt.scalar (S : StAt H0 H g f) {t j : Nat} {v : Value} {u : StV} {K : Hp → Prop} (ht : t < 201) (hj : j < 4) (hu : stC4 u = (stC4 (f t)).set j v) (hA : u.A = (f t).A) (hc : u.c = (f t).c) (hw : u.w = (f t).w)
    (hk : ∀ H', StAt H0 H' g (setV f t u) → K H') : storeF H g (0 + t * 4 + j) [v] K := by
  rw [Nat.zero_add]
  refine S.arr.set (F' := fun z => stC4 (setV f t u z)) ht hj (by rw [setV_at]; exact hu) (fun z hz => by rw [setV_off hz]) fun H' hP hfr => hk H' ?_
  have hq : ∀ z, (setV f t u z).A = (f z).A ∧ (setV f t u z).c = (f z).c ∧ (setV f t u z).w = (f z).w := fun z => by
    by_cases e : z = t
    · rw [e, setV_at]; exact ⟨hA, hc, hw⟩
    · rw [setV_off e]; exact ⟨rfl, rfl, rfl⟩
  refine ⟨fun q o hq' => ?_, S.g0, hP, fun z hz => ?_, fun z hz => ?_, fun y z hy hz hne q => ?_⟩
  · rw [hfr q fun e => by rw [e, S.g0] at hq'; cases hq']
    exact S.ext q o hq'
  · rw [(hq z).1, (hq z).2.1, (hq z).2.2]
    exact (S.row z hz).keep fun q hb => hfr q fun e => S.ng z hz (e ▸ hb)
  · rw [(hq z).1]; exact S.ng z hz
  · rw [(hq y).1, (hq z).1]; exact S.dj y z hy hz hne q
theorem StAt.push (S : StAt H0 H g f) {t : Nat} {i : Int} {K : Hp → Prop} (ht : t < 201) (hl : (f t).w.length < big) {g48 : Nat} (hg : H g48 = none)
    (hk : ∀ H' A c, StAt H0 H' g (setV f t ⟨(f t).b, (f t).e, (f t).s, A, c, (f t).w ++ [i]⟩) → K H') :
    appendF (upd g48 (.cells [Value.int .i64 i].toArray 3 (0, 0)) H) 3 1 8 (f t).A (f t).w.length (f t).c (some ⟨g48, 0, none⟩) 1 fun A50 n50 c50 H51 => storeF H51 g (0 + t * 4 + 3) [.slice A50 n50 c50] K := by
  refine Row.push1 (w := i) (f := inC) (k := 1) (ty := 3) (fun _ => rfl) (fun x v hv => by obtain rfl := List.mem_singleton.1 hv; rfl) (by omega) (S.row t ht) S.ext hl hg fun A2 c2 H2 R2 x2 fr2 nb2 => ?_
  have keep : ∀ q, H q ≠ none → ¬ rowB (f t).A q → H2 q = H q := fun q h1 h2 => by
    apply Classical.byContradiction
    intro hne
    rcases fr2 q hne with h | h
    · exact h2 h
    · exact h1 h
  have nb : ∀ q, H q ≠ none → ¬ rowB (f t).A q → ¬ rowB A2 q := fun q h1 h2 h3 => by
    rcases nb2 q h3 with h | h
    · exact h2 h
    · exact h1 h
  have hg2 : H2 g = H g := keep g S.arr.live (S.ng t ht)
  rw [Nat.zero_add]
  refine (S.arr.keep hg2).set (F' := fun z => stC4 (setV f t ⟨(f t).b, (f t).e, (f t).s, A2, c2, (f t).w ++ [i]⟩ z)) ht (by omega) (by rw [setV_at]; rfl) (fun z hz => by rw [setV_off hz]) fun H' hP hfr => hk H' A2 c2 ?_
  have hng2 : ¬ rowB A2 g := nb g S.arr.live (S.ng t ht)
  have hrow : ∀ z, z < 201 → z ≠ t → ∀ q, rowB (f z).A q → H q ≠ none ∧ ¬ rowB (f t).A q := fun z hz hne q hq => ⟨((S.row z hz).lt hq).1, fun h => S.dj z t hz ht hne q hq h⟩
  refine ⟨fun q o hq' => ?_, S.g0, hP, fun z hz => ?_, fun z hz => ?_, fun y z hy hz hne q hq1 hq2 => ?_⟩
  · rw [hfr q fun e => by rw [e, S.g0] at hq'; cases hq']
    exact x2 q o hq'
  · by_cases e : z = t
    · rw [e, setV_at]
      exact R2.keep fun q hb => hfr q fun e => hng2 (e ▸ hb)
    · rw [setV_off e]
      refine (S.row z hz).keep fun q hb => ?_
      rw [hfr q fun e => S.ng z hz (e ▸ hb)]
      exact keep q (hrow z hz e q hb).1 (hrow z hz e q hb).2
  · by_cases e : z = t
    · rw [e, setV_at]; exact hng2
    · rw [setV_off e]; exact S.ng z hz
  · by_cases e1 : y = t
    · by_cases e2 : z = t
      · exact hne (e1.trans e2.symm)
      · rw [e1, setV_at] at hq1
        rw [setV_off e2] at hq2
        exact nb q (hrow z hz e2 q hq2).1 (hrow z hz e2 q hq2).2 hq1
    · rw [setV_off e1] at hq1
      by_cases e2 : z = t
      · rw [e2, setV_at] at hq2
        exact nb q (hrow y hy e1 q hq1).1 (hrow y hy e1 q hq1).2 hq2
      · rw [setV_off e2] at hq2
        exact S.dj y z hy hz hne q hq1 hq2
def st0 : StV := ⟨false, false, 0, none, 0, []⟩
theorem zero4 : (List.replicate ((201 : Int).toNat) [Value.bool false, .bool false, .int .i64 0, .slice none 0 0]).flatten = (List.range 201).flatMap fun _ => stC4 st0 := by rfl
theorem stOf_nil : StOf [] fun _ => st0 := ⟨fun _ _ => rfl, fun _ _ => rfl, fun _ _ => rfl, fun t _ i => by unfold st0 wroteM; simp, fun _ _ => Nat.le_refl _⟩
theorem c21 {A : Option Addr} {n c : Nat} {l : List Ev} (hA : SlAt evC H A n l) (hq : ∀ H', Ext H H' → Q (.bool (validM l)) H') : HCalls Tryz.prog 21 [.slice A n c] H Q := by
  refine f21.ok _ _ _ ?_
  unfold f21
  obtain rfl := hA.len
  have hlt := hA.lt
  refine cndI (fun hbig => ?_) fun hsm => ?_
  · have : validM l = false := by
      unfold validM
      rw [decide_eq_false (by have := of_decide_eq_true hbig; omega)]; rfl
    rw [this] at hq
    exact hq H (Ext.refl _)
  have hlen : l.length ≤ 2000 := by have := of_decide_eq_false hsm; omega
  refine ⟨rfl, by decide, by decide, fun g1 hg1 => ?_⟩
  rw [zero4]
  have S2 : StAt H (upd g1 (Obj.cells ((List.range 201).flatMap fun _ => stC4 st0).toArray 84 (0, 0)) H) g1 (fun _ => st0) :=
    ⟨Ext.new hg1, hg1, ⟨fun _ => rfl, upd_at⟩, fun t _ => Row.nil, fun t _ ⟨o, z, h⟩ => (by cases h), fun t u _ _ _ q ⟨o, z, h⟩ => (by cases h)⟩
  generalize (upd g1 (Obj.cells ((List.range 201).flatMap fun _ => stC4 st0).toArray 84 (0, 0)) H) = H2 at S2 ⊢
  refine scan hlt (fun i H' => OkTo l i ∧ ∃ f, StAt H H' g1 f ∧ StOf (l.take i) f) ⟨fun i x hi => by omega, _, S2, stOf_nil⟩ (fun i H4 next hi hI hnext => ?_) (fun H4 next hI => ?_)
  rotate_left
  · obtain ⟨hok, f, S, O⟩ := hI
    dsimp only
    have : validM l = true := by
      unfold validM
      rw [decide_eq_true hlen, good_iff.2 hok]; rfl
    rw [this] at hq
    exact cndF (decide_eq_false (by omega)) (hq H4 S.ext)
  obtain ⟨hok, f, S, O⟩ := hI
  obtain ⟨x, hx⟩ := get_of hi
  have hokp := ok_take hok (by omega)
  have hpl : (l.take i).length = i := by rw [List.length_take]; omega
  have hbad : evOk (l.take i) x = false → ∀ H', Ext H H' → Q (.bool false) H' := fun h H' hx' => by
    rw [bad_at hx h] at hq; exact hq H' hx'
  have hgood : evOk (l.take i) x = true → OkTo l (i + 1) := fun h j y hj hy => by
    by_cases e : j = i
    · subst e; rw [hx] at hy; cases hy; exact h
    · exact hok j y (by omega) hy
  have hsnoc := take_snoc hx
  generalize hp : l.take i = p at O hokp hpl hbad hgood hsnoc
  dsimp only
  refine cndT (decide_eq_true (by omega)) (jn_intro (fun J => evOk p x = true → ∀ H' f', StAt H H' g1 f' → StOf (p ++ [x]) f' → J H') (fun he H' f' S' O' => ⟨rfl, hnext H' ⟨hgood he, f', S', by rw [hsnoc]; exact O'⟩⟩) fun J hJ => ⟨by omega, by omega, rd_ev (hA.ext S.ext) hx fun q o _ k1 k2 k3 k4 k5 => ⟨x.op, by simpa using k1, x.txn, by simpa using k2, x.item, by simpa using k3, x.frm, by simpa using k4, x.stmt, by simpa using k5, c56 ⟨_, rfl, cndI (fun hn => hbad ?_ H4 S.ext) fun hn => ?_⟩⟩⟩)
  · have hn : evR x = false := by simpa using hn
    rw [evOk_split, hn]; rfl
  have hR : evR x = true := by simpa using hn
  have hin : 1 ≤ x.txn ∧ x.txn ≤ 200 := by
    have := (Bool.and_eq_true_iff.1 hR).1
    unfold inB at this; simp at this; exact this
  have hsp : evOk p x = (!endedM p x.txn && ((begunM p x.txn != (x.op == 1)) && restB p x)) := by rw [evOk_split, hR, Bool.true_and]
  have ht : x.txn.toNat < 201 := by omega
  have hte : ((x.txn.toNat : Nat) : Int) = x.txn := by omega
  generalize htt : x.txn.toNat = t at ht hte
  have hb := O.b t ht
  have he := O.e t ht
  have hs := O.s t ht
  rw [hte] at hb he hs
  have hx201 : x.txn < ((201 : Nat) : Int) := by omega
  refine ⟨by omega, hx201, ?_⟩
  refine jn_intro (fun J => ∀ b, b = (endedM p x.txn || (begunM p x.txn == (x.op == 1))) → J b) (fun b hbb => cndI (fun hbt => hbad ?_ H4 S.ext) fun hbf => ?_) fun J hJ => ⟨_, S.cell (j := 1) ht rfl, cndI (fun h => hJ _ (by rw [← he, h]; rfl)) fun h => ⟨_, S.cell (j := 0) ht rfl, hJ _ (by rw [← he, h, hb]; rfl)⟩⟩
  · rw [hbt] at hbb
    rw [hsp]
    cases h1 : endedM p x.txn with
    | true => rfl
    | false =>
      rw [h1, Bool.false_or] at hbb
      have : (begunM p x.txn != (x.op == 1)) = false := by unfold bne; rw [← hbb]; rfl
      rw [this]; rfl
  rw [hbf] at hbb
  have hbb := hbb.symm
  rw [Bool.or_eq_false_iff] at hbb
  have hsp : evOk p x = restB p x := by
    rw [hsp, hbb.1]
    have : (begunM p x.txn != (x.op == 1)) = true := by unfold bne; rw [hbb.2]; rfl
    rw [this]; rfl
  refine cndI (fun h1 => ?_) fun h1 => ?_
  · have o1 : x.op = 1 := by simpa using h1
    refine S.scalar (j := 0) (u := ⟨true, (f t).e, (f t).s, (f t).A, (f t).c, (f t).w⟩) ht (by omega) rfl rfl rfl rfl fun H19 S19 => hJ (by rw [hsp]; unfold restB; simp [o1]) H19 _ S19 (O.step hte (fun u hu => setV_off hu) ?_ ?_ ?_ ?_ ?_)
    · rw [setV_at]; simp [o1]
    · rw [setV_at]; simp [o1]
    · rw [setV_at]; simp [o1]
    · intro i; rw [setV_at]; simp [o1]
    · rw [setV_at]; have := O.l t ht; show (f t).w.length ≤ _; omega
  have o1 : x.op ≠ 1 := by simpa using h1
  refine jn_intro (fun J => J (x.op == 4 || x.op == 5)) ?_ fun J hJ => cndI (fun h => by rw [h] at hJ ⊢; exact hJ) fun h => by rw [h] at hJ; exact hJ
  refine cndI (fun h45 => ?_) fun h45 => ?_
  · have o45 : x.op = 4 ∨ x.op = 5 := by simpa using h45
    refine S.scalar (j := 1) (u := ⟨(f t).b, true, (f t).s, (f t).A, (f t).c, (f t).w⟩) ht (by omega) rfl rfl rfl rfl fun H19 S19 => hJ (by rw [hsp]; unfold restB; rcases o45 with h | h <;> simp [h]) H19 _ S19 (O.step hte (fun u hu => setV_off hu) ?_ ?_ ?_ ?_ ?_)
    · rw [setV_at]; simp [o1]
    · rw [setV_at, h45]; simp
    · rw [setV_at]; rcases o45 with h | h <;> simp [h]
    · intro i; rw [setV_at]; rcases o45 with h | h <;> simp [h]
    · rw [setV_at]; have := O.l t ht; show (f t).w.length ≤ _; omega
  have o23 : x.op = 2 ∨ x.op = 3 := by
    unfold evR at hR
    have e1 : (x.op == 1) = false := h1
    rw [e1, h45] at hR
    simp only [Bool.or_self, Bool.false_eq_true, if_false] at hR
    have h2 := (Bool.and_eq_true_iff.1 hR).2
    split at h2
    · rename_i h3; simpa using h3
    · cases h2
  have h23 : (x.op == 2 || x.op == 3) = true := by rcases o23 with h | h <;> simp [h]
  refine ⟨_, S.cell (j := 2) ht rfl, ?_⟩
  rw [hs]
  refine cndI (fun hlt2 => hbad ?_ H4 S.ext) fun hge => ?_
  · rw [hsp]
    unfold restB
    have : ¬ stmtM p x.txn ≤ x.stmt := by have := of_decide_eq_true hlt2; omega
    rcases o23 with h | h <;> simp [h, this]
  have hge : stmtM p x.txn ≤ x.stmt := by have := of_decide_eq_false hge; omega
  refine S.scalar (j := 2) (u := ⟨(f t).b, (f t).e, x.stmt, (f t).A, (f t).c, (f t).w⟩) ht (by omega) rfl rfl rfl rfl fun H24 S24 => ?_
  have hwm : ∀ z, (setV f t ⟨(f t).b, (f t).e, x.stmt, (f t).A, (f t).c, (f t).w⟩ z).w = (f z).w ∧ (setV f t ⟨(f t).b, (f t).e, x.stmt, (f t).A, (f t).c, (f t).w⟩ z).e = (f z).e := fun z => by
    by_cases e : z = t
    · rw [e, setV_at]; exact ⟨rfl, rfl⟩
    · rw [setV_off e]; exact ⟨rfl, rfl⟩
  have O24 : x.op = 2 → StOf (p ++ [x]) (setV f t ⟨(f t).b, (f t).e, x.stmt, (f t).A, (f t).c, (f t).w⟩) := fun o2 => by
    refine O.step hte (fun u hu => setV_off hu) ?_ ?_ ?_ ?_ ?_
    · rw [setV_at]; simp [o2]
    · rw [setV_at]; simp [o2]
    · rw [setV_at]; simp [o2]
    · intro i; rw [setV_at]; simp [o2]
    · rw [setV_at]; have := O.l t ht; show (f t).w.length ≤ _; omega
  have O24w : ∀ A2 c2, x.op = 3 → x.item ∉ (f t).w → StOf (p ++ [x]) (setV (setV f t ⟨(f t).b, (f t).e, x.stmt, (f t).A, (f t).c, (f t).w⟩) t ⟨(f t).b, (f t).e, x.stmt, A2, c2, (f t).w ++ [x.item]⟩) := fun A2 c2 o3 hni => by
    refine O.step hte (fun u hu => by rw [setV_off hu, setV_off hu]) ?_ ?_ ?_ ?_ ?_
    · rw [setV_at]; simp [o3]
    · rw [setV_at]; simp [o3]
    · rw [setV_at]; simp [o3]
    · intro i; rw [setV_at]; simp [o3, eq_comm]
    · rw [setV_at]; have := O.l t ht; show ((f t).w ++ [x.item]).length ≤ _; rw [List.length_append, List.length_singleton]; omega
  have O24s : x.op = 3 → x.item ∈ (f t).w → StOf (p ++ [x]) (setV f t ⟨(f t).b, (f t).e, x.stmt, (f t).A, (f t).c, (f t).w⟩) := fun o3 hi' => by
    refine O.step hte (fun u hu => setV_off hu) ?_ ?_ ?_ ?_ ?_
    · rw [setV_at]; simp [o3]
    · rw [setV_at]; simp [o3]
    · rw [setV_at]; simp [o3]
    · intro i; rw [setV_at]
      show i ∈ (f t).w ↔ _
      constructor
      · exact .inl
      · rintro (h | ⟨_, rfl⟩)
        · exact h
        · exact hi'
    · rw [setV_at]; have := O.l t ht; show (f t).w.length ≤ _; omega
  have hf2 : setV f t ⟨(f t).b, (f t).e, x.stmt, (f t).A, (f t).c, (f t).w⟩ t = ⟨(f t).b, (f t).e, x.stmt, (f t).A, (f t).c, (f t).w⟩ := setV_at
  generalize hF : setV f t ⟨(f t).b, (f t).e, x.stmt, (f t).A, (f t).c, (f t).w⟩ = f2 at S24 hwm O24 O24w O24s hf2
  have hslot : ∀ z, z < 201 → SlAt inC H24 (f2 z).A (f2 z).w.length (f2 z).w := fun z hz => ⟨rfl, (S24.row z hz).cells, by rw [(hwm z).1]; have := O.l z hz; unfold huge; omega⟩
  have hany : ∀ z, z < 201 → ((f2 z).w.any fun y => y == x.item) = wroteM p z x.item := fun z hz => by
    rw [Bool.eq_iff_iff, List.any_eq_true, ← O.w z hz, (hwm z).1]
    constructor
    · rintro ⟨y, hy, h⟩
      have : y = x.item := by simpa using h
      rw [← this]; exact hy
    · intro h; exact ⟨_, h, by simp⟩
  refine jn_intro (fun J => ∀ b, b = ((x.op == 2) && ((x.frm != 0) && !wroteM p x.frm x.item)) → J b H24) (fun b hbb2 => cndI (fun hbt => hbad ?_ H24 S24.ext) fun hbf => ?_) fun J hJ => ?_
  · rw [hbt] at hbb2
    have h := hbb2.symm
    simp only [Bool.and_eq_true, beq_iff_eq, bne_iff_ne, ne_eq, Bool.not_eq_true'] at h
    rw [hsp]
    unfold restB
    simp [h.1, h.2.1, h.2.2]
  · rw [hbf] at hbb2
    refine cndI (fun h2 => ?_) fun h2 => ?_
    · have o2 : x.op = 2 := by simpa using h2
      refine hJ ?_ H24 _ S24 (O24 o2)
      rw [hsp]
      unfold restB
      rw [h2, Bool.true_and] at hbb2
      rw [if_pos (by simp [o2]), decide_eq_true hge, Bool.true_and]
      cases h3 : x.frm == 0 with
      | true => rfl
      | false =>
        unfold bne at hbb2
        rw [h3] at hbb2
        simpa using hbb2.symm
    · have o2 : x.op ≠ 2 := by simpa using h2
      have o3 : x.op = 3 := by omega
      have hrest : restB p x = !takenB p x.txn x.item := by unfold restB; rw [if_neg (by simp [o3]), if_pos (by simp [o3]), decide_eq_true hge, Bool.true_and]
      rw [hrest] at hsp
      refine scan (n := 201) (by omega) (fun m H' => H' = H24 ∧ ∀ z : Nat, z < m → ¬ ((z : Int) ≠ x.txn ∧ endedM p z = false ∧ wroteM p z x.item = true)) ⟨rfl, fun z hz => by omega⟩ (fun m H33 next2 hm hI hnext2 => ?_) (fun H33 next2 hI => ?_)
      · obtain ⟨rfl, hno⟩ := hI
        dsimp only
        have hm201 : (m : Int) < ((201 : Nat) : Int) := by omega
        have em : ((m : Int)).toNat = m := by omega
        refine cndT (decide_eq_true hm201) (jn_intro (fun J => ∀ b, b = (((m : Int) != x.txn) && (!endedM p m && wroteM p m x.item)) → J b H33) (fun b hbb3 => cndI (fun hbt => hbad ?_ H33 S24.ext) fun hbf => ⟨rfl, hnext2 H33 ⟨rfl, fun z hz => ?_⟩⟩) fun J hJ => cndI (fun hne => ⟨by omega, hm201, _, by rw [em]; exact S24.cell (j := 1) hm rfl, cndI (fun hnE => ⟨by omega, hm201, _, _, _, by rw [em]; exact S24.cell (j := 3) hm rfl, c57 (hslot m hm) ⟨_, rfl, hJ _ ?_⟩⟩) fun hE => hJ _ ?_⟩) fun heq => hJ _ ?_)
        · rw [hbt] at hbb3
          have h := hbb3.symm
          simp only [Bool.and_eq_true, bne_iff_ne, ne_eq, Bool.not_eq_true'] at h
          rw [hsp, taken_iff hokp |>.2 ⟨m, hm, h.1, h.2.1, h.2.2⟩]; rfl
        · by_cases e : z = m
          · subst e
            rintro ⟨a1, a2, a3⟩
            rw [hbf] at hbb3
            have := hbb3.symm
            rw [a2, a3] at this
            simp at this
            exact a1 this
          · exact hno z (by omega)
        · have hnE : (f2 m).e = false := by simpa using hnE
          rw [(hwm m).2, O.e m hm] at hnE
          rw [hany m hm, hnE, show ((m : Int) != x.txn) = true from hne]; rfl
        · have hE : (f2 m).e = true := by simpa using hE
          rw [(hwm m).2, O.e m hm] at hE
          rw [hE]; simp
        · rw [show ((m : Int) != x.txn) = false from heq]; rfl
      · obtain ⟨rfl, hno⟩ := hI
        dsimp only
        have hnt : takenB p x.txn x.item = false := by
          rw [← Bool.not_eq_true, taken_iff hokp]
          rintro ⟨z, hz, h⟩
          exact hno z hz h
        rw [hnt] at hsp
        have hw3 : cl H33 g1 (0 + t * 4 + 3) = some (.slice (f t).A (f t).w.length (f t).c) := by
          have := S24.cell (j := 3) ht (v := .slice (f2 t).A (f2 t).w.length (f2 t).c) rfl
          rw [hf2] at this; exact this
        have hst := hslot t ht
        rw [hf2] at hst
        refine cndF (by decide) ⟨_, _, _, hw3, c57 hst ⟨_, rfl, cndI (fun hn => ⟨_, _, _, hw3, fun g48 hg48 => ?_⟩) fun hn => ?_⟩⟩
        · have hni : x.item ∉ (f t).w := fun h => by
            have : ((f t).w.any fun y => y == x.item) = true := List.any_eq_true.2 ⟨_, h, by simp⟩
            rw [this] at hn; cases hn
          have := S24.push (i := x.item) (K := J) ht (by rw [hf2]; have := O.l t ht; unfold big; show (f t).w.length < _; omega) hg48 fun H52 A2 c2 S52 => hJ hsp H52 _ S52 (by rw [hf2]; exact O24w A2 c2 o3 hni)
          rw [hf2] at this
          exact this
        · have hi' : x.item ∈ (f t).w := by
            have hn : ((f t).w.any fun y => y == x.item) = true := by simpa using hn
            obtain ⟨y, hy, h⟩ := List.any_eq_true.1 hn
            have : y = x.item := by simpa using h
            rw [← this]; exact hy
          exact hJ hsp H33 _ S24 (O24s o3 hi')
  · refine cndI (fun h2 => cndI (fun h0 => cndI (fun hneg => hJ _ ?_) fun hneg => cndI (fun hbig2 => hJ _ ?_) fun hbig2 => ?_) fun h0 => hJ _ ?_) fun h2 => hJ _ ?_
    · have hw : wroteM p x.frm x.item = false := by
        rw [← Bool.not_eq_true]
        intro h
        have := txn_in hokp h
        have := of_decide_eq_true hneg
        omega
      rw [h2, h0, hw]; rfl
    · have hw : wroteM p x.frm x.item = false := by
        rw [← Bool.not_eq_true]
        intro h
        have := txn_in hokp h
        have := of_decide_eq_true hbig2
        omega
      rw [h2, h0, hw]; rfl
    · have hneg := of_decide_eq_false hneg
      have hbig2 := of_decide_eq_false hbig2
      have h201 : x.frm < ((201 : Nat) : Int) := by omega
      have hfz : x.frm.toNat < 201 := by omega
      have hfe : ((x.frm.toNat : Nat) : Int) = x.frm := by omega
      refine ⟨by omega, h201, _, _, _, S24.cell (j := 3) hfz rfl, c57 (hslot _ hfz) ⟨_, rfl, hJ _ ?_⟩⟩
      rw [hany _ hfz, hfe, h2, h0]; rfl
    · rw [h0]; simp
    · rw [h2]; rfl
end
end Go.Proofs.YtibhpoikhkokiaaGreat.Hw

/- Histories: HistoryOnly walked (c7). -/
set_option linter.unusedVariables false
set_option linter.unusedSimpArgs false
set_option linter.unusedSectionVars false
set_option maxRecDepth 20000
namespace Go.Proofs.YtibhpoikhkokiaaGreat.Hw
open Go Go.Proofs
/-! ### the events of some alone are valid -/
def inT (T : List Int) (t : Int) : Bool := T.any fun y => t == y
def cutF (T : List Int) (f : Int) : Int := if (f != 0) && !inT T f then 0 else f
theorem onlyS_in {T : List Int} {x : Ev} (h : inT T x.txn = true) : onlyS T x = [⟨x.op, x.txn, x.item, cutF T x.frm, x.stmt⟩] := by
  unfold onlyS
  have h' : (T.any fun y => x.txn == y) = true := h
  rw [if_pos h']; rfl
theorem onlyS_out {T : List Int} {x : Ev} (h : inT T x.txn = false) : onlyS T x = [] := by
  unfold onlyS
  rw [if_neg (by unfold inT at h; rw [h]; decide)]
theorem only_snoc {T : List Int} {p : List Ev} {x : Ev} : onlyM (p ++ [x]) T = onlyM p T ++ onlyS T x := by unfold onlyM; rw [List.flatMap_append]; simp
theorem any_only {T : List Int} {q : Ev → Bool} (hq : ∀ x : Ev, inT T x.txn = true → q ⟨x.op, x.txn, x.item, cutF T x.frm, x.stmt⟩ = q x) (hn : ∀ x, inT T x.txn = false → q x = false) : ∀ p : List Ev, (onlyM p T).any q = p.any q
  | [] => rfl
  | x :: p => by
    have ih := any_only hq hn p
    unfold onlyM at ih ⊢
    rw [List.flatMap_cons, List.any_append, ih, List.any_cons]
    congr 1
    cases h : inT T x.txn with
    | true => rw [onlyS_in h, List.any_cons, List.any_nil, Bool.or_false]; exact hq x h
    | false => rw [onlyS_out h, hn x h]; rfl
section
variable {T : List Int} {t : Int} (ht : inT T t = true)
include ht
theorem ne_out {x : Ev} (h : inT T x.txn = false) : (x.txn == t) = false := by
  have : x.txn ≠ t := fun e => by rw [e, ht] at h; cases h
  simpa using this
theorem only_begun (p : List Ev) : begunM (onlyM p T) t = begunM p t := any_only (fun x _ => rfl) (fun x h => by unfold isB; rw [ne_out ht h, Bool.and_false]) p
theorem only_ended (p : List Ev) : endedM (onlyM p T) t = endedM p t := any_only (fun x _ => rfl) (fun x h => by unfold isE; rw [ne_out ht h, Bool.and_false]) p
theorem only_wrote (p : List Ev) (i : Int) : wroteM (onlyM p T) t i = wroteM p t i := any_only (fun x _ => rfl) (fun x h => by unfold isW; rw [ne_out ht h]; simp) p
theorem only_stmt : ∀ (p : List Ev) (s : Int), (onlyM p T).foldl (stmtStep t) s = p.foldl (stmtStep t) s
  | [], s => rfl
  | x :: p, s => by
    have ih := only_stmt p
    unfold onlyM at ih ⊢
    rw [List.flatMap_cons, List.foldl_append, List.foldl_cons, ih]
    congr 1
    cases h : inT T x.txn with
    | true => rw [onlyS_in h]; rfl
    | false =>
      rw [onlyS_out h]
      unfold stmtStep
      rw [ne_out ht h, Bool.and_false, if_neg (by decide)]; rfl
end
theorem only_txn {T : List Int} {p : List Ev} {y : Ev} (h : y ∈ onlyM p T) : inT T y.txn = true := by
  unfold onlyM at h
  obtain ⟨x, _, hx⟩ := List.mem_flatMap.1 h
  cases hi : inT T x.txn with
  | true => rw [onlyS_in hi] at hx; rw [List.mem_singleton.1 hx]; exact hi
  | false => rw [onlyS_out hi] at hx; cases hx
theorem only_ok {T : List Int} : ∀ {n : Nat} {l : List Ev}, l.length = n → OkTo l l.length → OkTo (onlyM l T) (onlyM l T).length
  | 0, l, hn, _ => by rw [List.length_eq_zero_iff.1 hn]; exact fun i x hi => by simp [onlyM] at hi
  | n + 1, l, hn, hok => by
    have hlt : n < l.length := by omega
    have hx : l[n]? = some l[n] := List.getElem?_eq_getElem hlt
    have e : l = l.take n ++ [l[n]] := by rw [← take_snoc hx, ← hn, List.take_length]
    have hpre := ok_take (i := n) (hok.mono (by omega)) (by omega)
    have ih := only_ok (T := T) (n := n) (l := l.take n) (by rw [List.length_take]; omega) hpre
    have hev := hok n _ (by omega) hx
    generalize l[n] = x at e hev
    rw [e, only_snoc]
    generalize l.take n = p at *
    cases hi : inT T x.txn with
    | false => rw [onlyS_out hi, List.append_nil]; exact ih
    | true =>
      rw [onlyS_in hi]
      intro i y hil hy
      rw [List.length_append, List.length_singleton] at hil
      by_cases hlast : i < (onlyM p T).length
      · rw [List.getElem?_append_left hlast] at hy
        rw [List.take_append_of_le_length (by omega)]
        exact ih i y hlast hy
      · have hie : i = (onlyM p T).length := by omega
        subst hie
        rw [List.getElem?_append_right (Nat.le_refl _), Nat.sub_self] at hy
        simp only [List.getElem?_cons_zero, Option.some.injEq] at hy
        subst hy
        rw [List.take_append_of_le_length (Nat.le_refl _), List.take_length]
        have hst : stmtM (onlyM p T) x.txn = stmtM p x.txn := only_stmt hi p 0
        have hcz : x.frm = 0 → cutF T x.frm = 0 := fun h => by unfold cutF; rw [h]; rfl
        rw [evOk_split] at hev ⊢
        simp only [Bool.and_eq_true] at hev ⊢
        obtain ⟨h1, h2, h3, h4⟩ := hev
        refine ⟨?_, ?_, ?_, ?_⟩
        · unfold evR plainB at h1 ⊢
          simp only at h1 ⊢
          by_cases hz : x.frm = 0
          · rw [hcz hz]; rw [hz] at h1; exact h1
          · have hz' : (x.frm == 0) = false := by simpa using hz
            rw [hz'] at h1
            rw [Bool.and_eq_true] at h1 ⊢
            refine ⟨h1.1, ?_⟩
            have h1 := h1.2
            by_cases h23 : (x.op == 2 || x.op == 3) = true
            · rw [if_pos h23] at h1 ⊢
              simp only [Bool.and_eq_true, Bool.false_or] at h1
              simp only [Bool.and_eq_true]
              exact ⟨h1.1, h1.2.1, by rw [h1.2.2, Bool.or_true]⟩
            · rw [if_neg h23] at h1
              split at h1
              · simp at h1
              · cases h1
        · rw [only_ended hi]; exact h2
        · rw [only_begun hi]; exact h3
        · unfold restB at h4 ⊢
          simp only at h4 ⊢
          rw [hst]
          by_cases h23 : (x.op == 2) = true
          · rw [if_pos h23] at h4 ⊢
            rw [Bool.and_eq_true, Bool.or_eq_true] at h4 ⊢
            refine ⟨h4.1, ?_⟩
            by_cases hz : x.frm = 0
            · exact .inl (by rw [hcz hz]; rfl)
            · rcases h4.2 with h5 | h5
              · exact absurd (by simpa using h5) hz
              · cases hf : inT T x.frm with
                | false => exact .inl (by unfold cutF; rw [hf]; simp [hz])
                | true =>
                  have : cutF T x.frm = x.frm := by unfold cutF; rw [hf]; simp
                  rw [this, only_wrote hf]; exact .inr h5
          · rw [if_neg h23] at h4 ⊢
            split
            · rename_i h3'
              rw [if_pos h3', Bool.and_eq_true] at h4
              rw [Bool.and_eq_true]
              refine ⟨h4.1, ?_⟩
              have h5 := h4.2
              rw [Bool.not_eq_true'] at h5 ⊢
              rw [← Bool.not_eq_true, taken_iff ih]
              rintro ⟨m, hm, hne, hE, hW⟩
              obtain ⟨z, hz, hzp⟩ := List.any_eq_true.1 hW
              have hzt := only_txn hz
              rw [(isW_iff.1 hzp).2.1] at hzt
              rw [only_ended hzt] at hE
              rw [only_wrote hzt] at hW
              rw [(taken_iff hpre).2 ⟨m, hm, hne, hE, hW⟩] at h5
              cases h5
            · rfl
theorem only_valid {l : List Ev} {T : List Int} (h : validM l = true) : validM (onlyM l T) = true := by
  obtain ⟨hok, hlen⟩ := valid_ok h
  unfold validM
  have := onlyM_len (T := T) (l := l)
  rw [decide_eq_true (by omega), good_iff.2 (only_ok rfl hok)]; rfl
section
variable {H H' : Hp} {Q : Value → Hp → Prop} {A : Option Addr} {n c : Nat} {l : List Ev}
theorem any_flip {T : List Int} {t : Int} : (T.any fun y => y == t) = inT T t := by
  unfold inT
  congr 1
  funext y
  rw [Bool.eq_iff_iff, beq_iff_eq, beq_iff_eq]
  exact eq_comm
theorem c32 {S : Option Addr} {ns cs : Nat} {T : List Int} (hA : SlAt evC H A n l) (hS : SlAt inC H S ns T) (hq : OnlyQ H Q l T) : HCalls Tryz.prog 32 [.slice A n c, .slice S ns cs] H Q := by
  refine f32.ok _ _ _ _ _ _ ?_
  unfold f32
  obtain ⟨q1, q2⟩ := hq
  refine c21 hA fun H2 x2 => ⟨_, rfl, ?_⟩
  cases hv : validM l with
  | false => exact cndT rfl (q1 hv H2 x2)
  | true =>
  obtain ⟨hok, hlen⟩ := valid_ok hv
  obtain rfl := hA.len
  refine cndF rfl (loop_to l.length (fun i st H' => ∃ A1 c1, st = (((A1, (onlyM (l.take i) T).length, c1), ((i : Int), ())), ()) ∧ Ext H2 H' ∧ Row H2 H' A1 (onlyM (l.take i) T).length c1 5 ((onlyM (l.take i) T).flatMap evC)) ⟨none, 0, rfl, Ext.refl _, Row.nil⟩ ?_)
  rintro i st H5 next hi ⟨A1, c1, rfl, hx5, R⟩ hnext
  dsimp only
  by_cases h : i < l.length
  · obtain ⟨x, hx⟩ := get_of h
    have ei : IntKind.i64.wrap ((i : Int) + 1) = ((i + 1 : Nat) : Int) := by rw [wrap_id (by omega) (by omega)]; rfl
    have etk : onlyM (l.take (i + 1)) T = onlyM (l.take i) T ++ onlyS T x := by rw [take_snoc hx, only_snoc]
    have hol : (onlyM (l.take i) T).length ≤ i := by
      have := onlyM_len (T := T) (l := l.take i)
      rw [List.length_take] at this; omega
    refine cndT (decide_eq_true (by omega)) (jn_intro (fun J => ∀ A2 c2 H', Ext H2 H' → Row H2 H' A2 (onlyM (l.take (i + 1)) T).length c2 5 ((onlyM (l.take (i + 1)) T).flatMap evC) → J A2 (onlyM (l.take (i + 1)) T).length c2 H') (fun A2 c2 H' a b => ⟨rfl, hnext _ _ h ⟨A2, c2, by rw [ei], a, b⟩⟩) fun J hJ => ⟨by omega, by omega, rd_ev (hA.ext (x2.trans hx5)) hx fun q o _ k1 k2 k3 k4 k5 => ⟨x.op, by simpa using k1, x.txn, by simpa using k2, x.item, by simpa using k3, x.frm, by simpa using k4, x.stmt, by simpa using k5, ?_⟩⟩)
    rw [etk] at hJ
    refine c57 ((hS.ext x2).ext hx5) ⟨_, rfl, ?_⟩
    rw [any_flip]
    refine cndI (fun hn => ?_) fun hn => ?_
    · have hn : inT T x.txn = false := by simpa using hn
      rw [onlyS_out hn, List.append_nil] at hJ
      exact hJ A1 c1 H5 hx5 R
    · have hn : inT T x.txn = true := by simpa using hn
      rw [onlyS_in hn] at hJ
      refine jn_intro (fun J2 => J2 (cutF T x.frm) H5) (fun g25 hg25 => ?_) fun J2 h2 => c57 ((hS.ext x2).ext hx5) ⟨_, rfl, ?_⟩
      · exact Row.push1 (w := (⟨x.op, x.txn, x.item, cutF T x.frm, x.stmt⟩ : Ev)) (f := evC) (k := 5) (ty := 35) evC_len evC_one (by omega) R hx5 (by unfold big; omega) hg25 fun A2 c2 H28 R2 x28 _ _ => hJ A2 c2 H28 x28 R2
      · rw [any_flip]
        refine cndI (fun h0 => ?_) fun h0 => ?_
        · have h0 : inT T x.frm = false := by simpa using h0
          have : cutF T x.frm = 0 := by
            unfold cutF; rw [h0]
            by_cases hz : x.frm = 0
            · rw [hz]; rfl
            · simp [hz]
          rw [this] at h2; exact h2
        · have h0 : inT T x.frm = true := by simpa using h0
          have : cutF T x.frm = x.frm := by unfold cutF; rw [h0]; simp
          rw [this] at h2; exact h2
  · obtain rfl : i = l.length := by omega
    rw [List.take_length] at R ⊢
    have := onlyM_len (T := T) (l := l)
    exact cndF (decide_eq_false (by omega)) (q2 hv A1 c1 H5 (x2.trans hx5) ⟨rfl, R.cells, by unfold huge; omega⟩ R.2.1)
theorem c33 {A B : Option Addr} {n k ca cb : Nat} {l : List Ev} (hA : SlAt evC H A n l) (hB : SlAt evC H B k l) (hq : Q (.bool true) H) : HCalls Tryz.prog 33 [.slice A n ca, .slice B k cb] H Q := by
  refine f33.ok _ _ _ _ _ _ ?_
  unfold f33
  obtain rfl := hA.len
  obtain rfl := hB.len
  refine cndF (by simp) ?_
  have hl1 := hA.lt
  refine scan hl1 (fun i H' => H' = H) rfl (fun i H2 next hi hI hnext => ?_) (fun H2 next hI => ?_)
  · obtain rfl := hI
    obtain ⟨x, hx⟩ := get_of hi
    dsimp only
    refine cndT (decide_eq_true (by omega)) ⟨by omega, by omega, rd_ev hA hx fun q o _ k1 k2 k3 k4 k5 => ⟨x.op, by simpa using k1, x.txn, by simpa using k2, x.item, by simpa using k3, x.frm, by simpa using k4, x.stmt, by simpa using k5, by omega, by omega, rd_ev hB hx fun q o _ k1 k2 k3 k4 k5 => ⟨x.op, by simpa using k1, x.txn, by simpa using k2, x.item, by simpa using k3, x.frm, by simpa using k4, x.stmt, by simpa using k5, cndF ?_ ⟨rfl, hnext H2 rfl⟩⟩⟩⟩
    simp
  · obtain rfl := hI
    dsimp only
    exact cndF (decide_eq_false (by omega)) hq
theorem c7 {S : Option Addr} {ns cs : Nat} {T : List Int} (hA : SlAt evC H A n l) (hc : n ≤ c) (hS : SlAt inC H S ns T) (hq : ∀ H', Ext H H' → Q (.bool true) H') : HCalls Tryz.prog 7 [.slice A n c, .slice S ns cs] H Q := by
  refine f7.ok _ _ _ _ _ _ ?_
  unfold f7
  refine jn_intro (fun J => ∀ b, J b H) (fun b => ?_) fun J hJ => c10 ⟨_, rfl, cndI (fun _ => hJ _) fun _ => hJ _⟩
  refine cndI (fun _ => c11 fun H8 x8 => ⟨_, rfl, hq H8 x8⟩) fun _ => ?_
  have nilS : ∀ X, SlAt evC X none 0 [] := fun X => ⟨rfl, .inl rfl, by unfold huge; decide⟩
  cases hv : validM l with
  | false =>
    refine c31 hA hc hS ⟨fun _ H11 x11 => ⟨_, _, _, _, rfl, ?_⟩, fun h => by rw [hv] at h; cases h⟩
    refine c32 (hA.ext x11) (hS.ext x11) ⟨fun _ H15 x15 => ⟨_, _, _, _, rfl, ?_⟩, fun h => by rw [hv] at h; cases h⟩
    refine jn_intro (fun J => ∀ H', Ext H H' → J true H') (fun H' hx => hq H' hx) fun J hJ => c33 (nilS _) (nilS _) ⟨_, rfl, cndT rfl (cndT rfl (cndT rfl (c11 fun H22 x22 => ⟨_, rfl, hJ H22 ((x11.trans x15).trans x22)⟩)))⟩
  | true =>
    refine c31 hA hc hS ⟨(fun h => by rw [hv] at h; cases h), fun _ A12 c12 H11 x11 S12 hc12 => ⟨_, _, _, _, rfl, ?_⟩⟩
    refine c32 (hA.ext x11) (hS.ext x11) ⟨(fun h => by rw [hv] at h; cases h), fun _ A16 c16 H15 x15 S16 _ => ⟨_, _, _, _, rfl, ?_⟩⟩
    have hS12 := S12.ext x15
    refine jn_intro (fun J => ∀ H', Ext H H' → J true H') (fun H' hx => hq H' hx) fun J hJ => c33 hS12 S16 ⟨_, rfl, cndT rfl (cndT rfl (cndF rfl (c14 hS12 fun H25 x25 => ⟨_, rfl, ?_⟩)))⟩
    rw [only_valid hv]
    exact cndT rfl (c11 fun H28 x28 => ⟨_, rfl, hJ H28 (((x11.trans x15).trans x25).trans x28)⟩)
end
end Go.Proofs.YtibhpoikhkokiaaGreat.Hw

/- The row HistoryOnly, proved. -/
set_option linter.unusedVariables false
set_option linter.unusedSimpArgs false
set_option maxRecDepth 100000
namespace Go.Proofs.YtibhpoikhkokiaaGreat
open Go.ChangeShapes Go.WideShapes Go.ChangeAt Go.RowKit
open Hw
theorem only_lifted (os : Os) (started : os.Started) (H : Type) (enc : TypeId × Value → H) :
    ReturnsInHanded {} Tryz.checked os 7 .any (Rows.historyOnlySpec.pre6 enc Tryz.prog Tryz.f7 Rows.historyOnlyRow.domain false) (Rows.historyOnlySpec.post enc Tryz.prog Tryz.f7 Rows.historyOnlyRow.apart Rows.historyOnlyRow.fresh Rows.historyOnlyRow.handsOn Rows.historyOnlyRow.again) := by
  refine returnsInHanded_of_change_sized (C := Tryz.checked) ownK started (by kernel_rfl) Tryz.func7
    (ChangeSpec.witness6 (enc := enc) (C := Tryz.checked) false ⟨#[], #[.slice none 0 0, .slice none 0 0], []⟩ 8 (by kernel_rfl) (by kernel_rfl) (by kernel_rfl) (by kernel_rfl)) ?_
  intro W base args ds gs before hval0 hW hcnd hsz0 _
  have hval : ∀ (j : Nat) t v, Tryz.f7.params[j]? = some t → args[j]? = some v → Value.okWide Tryz.prog W .any base t v := hval0
  have hsz : (DataW.weightsEach Tryz.prog (Tryz.f7.params.toList ++ Rows.historyOnlySpec.plain.varTypes Tryz.prog) (ds ++ gs)).all (· ≤ reachBytes) = true := hsz0
  have hW' := hW
  obtain ⟨p, q, hA0, hV, rfl, hfz, hnd⟩ := hW
  have hA : DataW.TrodAll enc Tryz.prog W 0 (fun _ => true) true Tryz.f7.params.toList args.toList ds p := hA0
  rw [Tryz.params7] at hA hval hsz
  obtain ⟨v0, v1, d0, d1, p0, p1, rfl, rfl, rfl, h0, h1⟩ := trodAll_two hA
  obtain ⟨rfl, rfl⟩ := trodVars_none hV
  have hs0 : Sz Tryz.prog 22 d0 := fun n hn => by
    have := List.all_eq_true.1 hsz n (DataW.weights_mem_each (j := 0) rfl rfl n hn)
    exact of_decide_eq_true this
  have hs1 : Sz Tryz.prog 23 d1 := fun n hn => by
    have := List.all_eq_true.1 hsz n (DataW.weights_mem_each (j := 1) rfl rfl n hn)
    exact of_decide_eq_true this
  obtain ⟨fl0, e0⟩ := h0
  obtain ⟨fl1, e1⟩ := h1
  obtain ⟨A, n, c, l, hc0, hp0, hcap⟩ := open_evs hs0 e0
  obtain ⟨S, ns, cs, T, hc1, hp1⟩ := open_nums hs1 e1
  have g0 := slice_of u22 (hval 0 22 v0 rfl rfl) hc0
  have g1 := slice_of u23 (hval 1 23 v1 rfl rfl) hc1
  subst g0
  subst g1
  have key := c7 (Q := fun v H' => v = .bool true ∧ Ext (hpOf W) H') (cs := cs) hp0 hcap hp1 (fun H' hx => ⟨rfl, hx⟩) W (fun b o h => h)
  refine Calls.mono key ?_
  rintro e W' ⟨v, H', rfl, ⟨rfl, hx⟩, hh, hf, _⟩
  refine ⟨_, rfl, post_look (f := Tryz.f7) cellsB_prog (by rw [Tryz.params7]; decide) hW' rfl rfl rfl (fun b sp hd => ?_) (fun b o h => hh b o (hx b o h)) hf.1 hf.2.2.1 ?_⟩
  · exact res_bool b sp hd true
  · exact ok_bools rfl true
theorem only_holds : Rows.HistoryOnlySaid :=
  OpenClaim.holds_of_wide 7 Tryz.f7 rfl rfl rfl rfl rfl rfl rfl ⟨rfl, rfl, rfl, rfl, rfl⟩ rfl rfl rfl rfl rfl (by kernel_rfl) Tryz.func7 (by kernel_rfl)
    (of_decide_eq_true (by kernel_rfl)) (by unfold Func.isWrapper; first | (rw [if_pos (by decide +kernel)]; kernel_rfl) | (rw [if_neg (by decide +kernel)]; exact ⟨rfl, rfl⟩))
    (fun os started H enc _ => only_lifted os started H enc)
end Go.Proofs.YtibhpoikhkokiaaGreat
