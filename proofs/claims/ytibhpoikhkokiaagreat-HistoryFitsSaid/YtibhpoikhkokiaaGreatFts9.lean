/- Tx Sk Ty Tz Va Vb Vc Vd HwFc Ve Vf (joined by merge.py) -/
import Derived.Test.YtibhpoikhkokiaaGreatFts8
import Derived.Shelf.SlIterI.Nil
import Derived.Shelf.SortM.Plain
import Derived.Shelf.SortM.SortNone
import Derived.Test.YtibhpoikhkokiaaGreatProg
import Derived.Test.YtibhpoikhkokiaaGreatFts3
/- Histories: Fits, Committed, Serial. -/
set_option linter.unusedVariables false
set_option linter.unusedSimpArgs false
set_option maxRecDepth 20000
namespace Go.Proofs.YtibhpoikhkokiaaGreat.Hw
open Go Go.Proofs
def opOf (t : Int) (x : Ev) : Bool := (x.txn == t) && (x.op == 2 || x.op == 3)
def highM (l : List Ev) (t : Int) : Nat := match l.findIdx? (opOf t) with
  | some i => i
  | none => natOr (commitI l t)
def serialB (l : List Ev) (t : Int) : Bool := foundB l t 0 (begAt l t + 1) (highM l t : Nat) (comAt l t)
def eachS (l : List Ev) (t : Int) (st : Int × Int × Bool) (i : Nat) : Int × Int × Bool := match l[i]? with
  | some x => if x.txn == t then ((i : Int), x.stmt, st.2.2 && (x.stmt == st.2.1 || foundB l t x.stmt (st.1 + 1) i (-1))) else st
  | none => st
def eachTo (l : List Ev) (t : Int) (k n : Nat) : Int × Int × Bool := (List.range n).foldl (fun st j => eachS l t st (k + 1 + j)) ((k : Int), 0, true)
def eachB (l : List Ev) (t : Int) : Bool := (eachTo l t (natOr (beginI l t)) (natOr (commitI l t) - (natOr (beginI l t) + 1))).2.2
theorem eachTo_succ {l : List Ev} {t : Int} {k n : Nat} : eachTo l t k (n + 1) = eachS l t (eachTo l t k n) (k + 1 + n) := by unfold eachTo; rw [List.range_succ, List.foldl_append]; rfl
theorem eachS_false {l : List Ev} {t : Int} {st : Int × Int × Bool} {i : Nat} (h : st.2.2 = false) : (eachS l t st i).2.2 = false := by
  unfold eachS
  split
  · split
    · simp [h]
    · exact h
  · exact h
theorem eachTo_false {l : List Ev} {t : Int} {k n m : Nat} (h : (eachTo l t k n).2.2 = false) (hm : n ≤ m) : (eachTo l t k m).2.2 = false := by
  induction m with
  | zero => have : n = 0 := by omega
            rw [← this]; exact h
  | succ m ih =>
    by_cases e : n = m + 1
    · rw [← e]; exact h
    · rw [eachTo_succ]; exact eachS_false (ih (by omega))
def okT (l : List Ev) (some_ : List Int) (t : Int) : Bool := if some_.any (fun y => t == y) then serialB l t else eachB l t
def fitsM (l : List Ev) (some_ : List Int) : Bool := l.all fun x => !(x.op == 4) || okT l some_ x.txn
theorem not_f : ∀ {z : Bool}, false = !z → z = true := by decide
theorem com_ex {l : List Ev} {t : Int} : comB l t = true ↔ ∃ (i : Nat) (x : Ev), l[i]? = some x ∧ isC t x = true := by
  unfold comB
  constructor
  · intro h
    cases hc : commitI l t with
    | none => rw [hc] at h; cases h
    | some i =>
      obtain ⟨x, hx, hp⟩ := commit_get hc
      exact ⟨i, x, hx, hp⟩
  · rintro ⟨i, x, hx, hp⟩
    obtain ⟨j, hj, _⟩ := lastI_ge hx hp
    show (lastI (isC t) l).isSome = true
    rw [hj]; rfl
theorem fitsM_iff {l : List Ev} {some_ : List Int} : fitsM l some_ = true ↔ ∀ t, comB l t = true → okT l some_ t = true := by
  unfold fitsM
  rw [List.all_eq_true]
  constructor
  · intro h t ht
    obtain ⟨i, x, hx, hp⟩ := com_ex.1 ht
    obtain ⟨o, e⟩ := isC_iff.1 hp
    have := h x (List.mem_of_getElem? hx)
    rw [o, e] at this
    simpa using this
  · intro h x hx
    by_cases o : x.op = 4
    · obtain ⟨i, hi⟩ := List.getElem?_of_mem hx
      have := h x.txn (com_ex.2 ⟨i, x, hi, isC_iff.2 ⟨o, rfl⟩⟩)
      rw [this, Bool.or_true]
    · have : (x.op == 4) = false := by simpa using o
      rw [this]; rfl
section
variable {H H' : Hp} {g c b v w : Nat} {sl : Int → Option Addr × Nat} {A : Option Addr} {n cp : Nat} {l : List Ev} {Q : Value → Hp → Prop}
theorem com_begin {t : Int} {ci : Nat} (hok : OkTo l l.length) (hc : commitI l t = some ci) : ∃ k, beginI l t = some k ∧ k < ci := by
  obtain ⟨x, hx, hp⟩ := commit_get hc
  obtain ⟨o, e⟩ := isC_iff.1 hp
  obtain ⟨k, h1, h2⟩ := hok.begin_lt hx (by rw [o]; decide)
  exact ⟨k, by rw [← e]; exact h1, h2⟩
theorem c41 {t : Int} {ci : Nat} (B : BookAt H g c b v w sl A n cp l) (hok : OkTo l l.length) (hs : l.length ≤ 2000) (hc : commitI l t = some ci) (hq : ∀ H', Ext H H' → Q (.bool (serialB l t)) H') :
    HCalls Tryz.prog 41 [.pointer (some ⟨g, 0, none⟩), .int .i64 t] H Q := by
  refine f41.ok _ _ _ ?_
  unfold f41
  obtain ⟨k, hb, hkc⟩ := com_begin hok hc
  have hcom : comAt l t = (ci : Int) := by unfold comAt natOr; rw [hc]; rfl
  have hbeg : begAt l t = (k : Int) := by unfold begAt natOr; rw [hb]; rfl
  have hA := B.evs
  obtain rfl := hA.len
  have hlt := hA.lt
  obtain ⟨xc, hxc, hxcp⟩ := commit_get hc
  have hcl : ci < l.length := (List.getElem?_eq_some_iff.1 hxc).1
  refine ⟨some c, B.cl 1, B.com ⟨_, rfl, some b, B.cl 2, B.beg fun b' => ⟨_, rfl, ?_⟩⟩⟩
  rw [hcom, hbeg]
  refine loop_to (ci - k + 1) (fun i s H' => ∃ hh i' : Nat, s = (((hh : Int), ((i' : Int), ())), ()) ∧ H' = H ∧ i' ≤ l.length ∧ ((hh = ci ∧ i' = k + i ∧ i' ≤ ci ∧ ∀ j x, j < i' → l[j]? = some x → opOf t x = false) ∨ (hh < i' ∧ hh < ci ∧ hh = highM l t)))
    ⟨ci, k, rfl, rfl, by omega, .inl ⟨rfl, rfl, by omega, fun j x hj hx => ?_⟩⟩ ?_
  · have := no_before hok hb hx hj
    unfold opOf
    rw [show (x.txn == t) = false by simpa using this]; rfl
  rintro i s H10 next hi ⟨hh, i', rfl, rfl, hil, hst⟩ hnext
  dsimp only
  have ei : IntKind.i64.wrap ((i' : Int) + 1) = ((i' + 1 : Nat) : Int) := by rw [wrap_id (by omega) (by omega)]; rfl
  by_cases hlt2 : i' < hh
  · rcases hst with ⟨rfl, hki, hic, hno⟩ | ⟨h1, h2, h3⟩
    · obtain ⟨x, hx⟩ := get_of (l := l) (i := i') (by omega)
      refine cndT (decide_eq_true (by omega)) (jn_intro (fun J => (opOf t x = true → J (i' : Int)) ∧ (opOf t x = false → J (hh : Int))) ⟨fun ho => ⟨rfl, hnext _ _ (by omega) ⟨i', i' + 1, by rw [ei], rfl, by omega, .inr ⟨by omega, by omega, ?_⟩⟩⟩, fun ho => ⟨rfl, hnext _ _ (by omega) ⟨hh, i' + 1, by rw [ei], rfl, by omega, .inl ⟨rfl, by omega, by omega, fun j y hj hy => ?_⟩⟩⟩⟩ fun J hJ => ⟨A, l.length, cp, B.cl 0, by omega, by omega, rd_ev hA hx fun q o _ k1 k2 k3 k4 k5 => ⟨x.op, by simpa using k1, x.txn, by simpa using k2, x.item, by simpa using k3, x.frm, by simpa using k4, x.stmt, by simpa using k5, ?_⟩⟩)
      · unfold highM
        have : l.findIdx? (opOf t) = some i' := by
          rw [List.findIdx?_eq_some_iff_getElem]
          obtain ⟨g1, g2⟩ := List.getElem?_eq_some_iff.1 hx
          exact ⟨g1, by rw [g2]; exact ho, fun j hj => by rw [hno j _ hj (List.getElem?_eq_getElem (by omega))]; decide⟩
        rw [this]
      · by_cases e : j = i'
        · subst e; rw [hx] at hy; cases hy; exact ho
        · exact hno j y (by omega) hy
      · refine jn_intro (fun J2 => ∀ bb, bb = opOf t x → J2 bb) (fun bb hbb => cndI (fun hbt => hJ.1 (by rw [← hbb, hbt])) fun hbf => hJ.2 (by rw [← hbb, hbf])) fun J2 h2 => cndI (fun g1 => cndI (fun g2 => h2 _ ?_) fun g2 => h2 _ ?_) fun g1 => h2 _ ?_
        · unfold opOf; rw [show (x.txn == t) = true from g1, show (x.op == 2) = true from g2]; rfl
        · unfold opOf; rw [show (x.txn == t) = true from g1, show (x.op == 2) = false from g2]; rfl
        · unfold opOf; rw [show (x.txn == t) = false from g1]; rfl
    · omega
  · have hhigh : hh = highM l t := by
      rcases hst with ⟨rfl, hki, hic, hno⟩ | ⟨h1, h2, h3⟩
      · unfold highM
        have : l.findIdx? (opOf t) = none := by
          rw [List.findIdx?_eq_none_iff]
          intro x hx
          obtain ⟨j, hj⟩ := List.getElem?_of_mem hx
          by_cases hjc : j < i'
          · exact hno j x hjc hj
          · cases ho : opOf t x with
            | false => rfl
            | true =>
              exfalso
              unfold opOf at ho
              simp only [Bool.and_eq_true, beq_iff_eq, Bool.or_eq_true] at ho
              by_cases ej : j = hh
              · subst ej; rw [hxc] at hj; cases hj
                have := (isC_iff.1 hxcp).1
                omega
              · refine hok.after hxc hj (List.getElem?_eq_some_iff.1 hj).1 (by omega) ?_
                rw [ho.1]; exact (isC_isE hxcp).1
        rw [this]
        unfold natOr; rw [hc]; rfl
      · exact h3
    have hhl : hh ≤ ci := by
      rcases hst with ⟨rfl, _⟩ | ⟨_, h2, _⟩
      · exact Nat.le_refl _
      · omega
    have eb : IntKind.i64.wrap ((k : Int) + 1) = begAt l t + 1 := by rw [hbeg, wrap_id (by omega) (by omega)]
    have fin : ∀ J : Bool → Hp → Prop, (∀ H', Ext H10 H' → J (serialB l t) H') → HCalls Tryz.prog 71 [.pointer (some ⟨g, 0, none⟩), .int .i64 t, .int .i64 0, .int .i64 (IntKind.i64.wrap ((k : Int) + 1)), .int .i64 (hh : Int), .int .i64 (ci : Int)] H10 fun v31 H32 => ∃ x33 : Bool, v31 = .bool x33 ∧ J x33 H32 := fun J hJ => by
      rw [eb]
      refine c71 B hok hb (by omega) (by omega) (by omega) fun H' x' => ⟨_, rfl, ?_⟩
      have := hJ H' x'
      unfold serialB at this
      rw [hcom, ← hhigh] at this
      exact this
    refine cndF (decide_eq_false (by omega)) (jn_intro (fun J => ∀ H', Ext H10 H' → J (serialB l t) H') hq fun J hJ => ⟨some b, B.cl 2, some c, B.cl 1, B.beg fun b' => ⟨_, rfl, rfl, B.com ⟨_, rfl, rfl, ?_⟩⟩, B.com ⟨_, rfl, rfl, B.beg fun b' => ⟨_, rfl, rfl, ?_⟩⟩⟩)
    · rw [hbeg, hcom]; exact fin J hJ
    · rw [hbeg, hcom]; exact fin J hJ
theorem c39 {t : Int} {ci : Nat} (B : BookAt H g c b v w sl A n cp l) (hok : OkTo l l.length) (hs : l.length ≤ 2000) (hc : commitI l t = some ci) (hq : ∀ H', Ext H H' → Q (.bool (eachB l t)) H') :
    HCalls Tryz.prog 39 [.pointer (some ⟨g, 0, none⟩), .int .i64 t] H Q := by
  refine f39.ok _ _ _ ?_
  unfold f39
  obtain ⟨k, hb, hkc⟩ := com_begin hok hc
  have hcom : comAt l t = (ci : Int) := by unfold comAt natOr; rw [hc]; rfl
  have hbeg : begAt l t = (k : Int) := by unfold begAt natOr; rw [hb]; rfl
  have hA := B.evs
  obtain rfl := hA.len
  have hlt := hA.lt
  obtain ⟨xc, hxc, hxcp⟩ := commit_get hc
  have hcl : ci < l.length := (List.getElem?_eq_some_iff.1 hxc).1
  have hE : eachB l t = (eachTo l t k (ci - (k + 1))).2.2 := by unfold eachB natOr; rw [hb, hc]; rfl
  refine ⟨some b, B.cl 2, B.beg fun b' => ⟨_, rfl, some b, B.cl 2, B.beg fun b'' => ⟨_, rfl, ?_⟩⟩⟩
  rw [hbeg, show IntKind.i64.wrap ((k : Int) + 1) = ((k + 1 : Nat) : Int) by rw [wrap_id (by omega) (by omega)]; rfl]
  refine loop_to (ci - (k + 1)) (fun i s H' => ∃ i' : Nat, s = (((eachTo l t k i).1, ((eachTo l t k i).2.1, ((i' : Int), ()))), ()) ∧ i' = k + 1 + i ∧ Ext H H' ∧ (eachTo l t k i).2.2 = true ∧ 0 ≤ (eachTo l t k i).1 ∧ (eachTo l t k i).1 < i') ⟨k + 1, rfl, rfl, Ext.refl _, rfl, by show (0 : Int) ≤ (k : Int); omega, by show (k : Int) < _; omega⟩ ?_
  rintro i s H10 next hi ⟨i', rfl, hki, hx10, hst, h0, h1⟩ hnext
  have B10 := B.ext hx10
  dsimp only
  refine ⟨some c, B10.cl 1, B10.com ⟨_, rfl, ?_⟩⟩
  rw [hcom]
  by_cases h : i < ci - (k + 1)
  · obtain ⟨x, hx⟩ := get_of (l := l) (i := i') (by omega)
    have ei : IntKind.i64.wrap ((i' : Int) + 1) = ((i' + 1 : Nat) : Int) := by rw [wrap_id (by omega) (by omega)]; rfl
    have hS : eachTo l t k (i + 1) = if x.txn == t then ((i' : Int), x.stmt, (eachTo l t k i).2.2 && (x.stmt == (eachTo l t k i).2.1 || foundB l t x.stmt ((eachTo l t k i).1 + 1) i' (-1))) else eachTo l t k i := by
      rw [eachTo_succ, ← hki]; unfold eachS; rw [hx]
    refine cndT (decide_eq_true (by omega)) (jn_intro (fun J => ∀ H', Ext H10 H' → (eachTo l t k (i + 1)).2.2 = true → J (eachTo l t k (i + 1)).1 (eachTo l t k (i + 1)).2.1 H') (fun H' hx' ho => ⟨rfl, hnext _ _ h ⟨i' + 1, by rw [ei], by omega, hx10.trans hx', ho, ?_, ?_⟩⟩) fun J hJ => ⟨A, l.length, cp, B10.cl 0, by omega, by omega, rd_ev (hA.ext hx10) hx fun q o _ k1 k2 k3 k4 k5 => ⟨x.op, by simpa using k1, x.txn, by simpa using k2, x.item, by simpa using k3, x.frm, by simpa using k4, x.stmt, by simpa using k5, ?_⟩⟩)
    · rw [hS]; split
      · show (0 : Int) ≤ (i' : Int); omega
      · exact h0
    · rw [hS]; split
      · show (i' : Int) < _; omega
      · omega
    · refine cndI (fun ht => ?_) fun ht => ?_
      · have : (x.txn == t) = false := by simpa using ht
        rw [this, if_neg (by decide)] at hS
        have := hJ H10 (Ext.refl _) (by rw [hS]; exact hst)
        rw [hS] at this; exact this
      · have : (x.txn == t) = true := by simpa using ht
        rw [this, if_pos rfl, hst, Bool.true_and] at hS
        rw [hS] at hJ
        refine jn_intro (fun J2 => ∀ H' bb, Ext H10 H' → bb = !(x.stmt == (eachTo l t k i).2.1 || foundB l t x.stmt ((eachTo l t k i).1 + 1) i' (-1)) → J2 bb H') (fun H' bb hx' hbb => cndI (fun hbt => ?_) fun hbf => hJ H' hx' (not_f (hbf.symm.trans hbb))) fun J2 h2 => cndI (fun hs2 => ?_) fun hs2 => ?_
        · have : eachB l t = false := by
            rw [hE]
            refine eachTo_false (n := i + 1) ?_ (by omega)
            rw [hS]
            rw [hbt] at hbb
            simpa using hbb.symm
          rw [this] at hq
          exact hq H' (hx10.trans hx')
        · have hs3 : (x.stmt == (eachTo l t k i).2.1) = false := by simpa using hs2
          rw [show IntKind.i64.wrap ((eachTo l t k i).1 + 1) = (eachTo l t k i).1 + 1 by rw [wrap_id (by omega) (by omega)]]
          exact c71 B10 hok hb (by omega) (by omega) (by omega) fun H24 x24 => ⟨_, rfl, h2 H24 _ x24 (by rw [hs3]; rfl)⟩
        · have hs3 : (x.stmt == (eachTo l t k i).2.1) = true := by simpa using hs2
          exact h2 H10 false (Ext.refl _) (by rw [hs3]; rfl)
  · have e : i = ci - (k + 1) := by omega
    rw [hE, ← e, hst] at hq
    exact cndF (decide_eq_false (by omega)) (hq H10 hx10)
/-- What Fits hands back. -/
def FitsQ (H : Hp) (Q : Value → Hp → Prop) (l : List Ev) (some_ : List Int) : Prop := ∀ H', Ext H H' → Q (.tuple #[.bool (validM l && fitsM l some_), .int .i64 (if validM l then 0 else 2)]) H'
theorem c12 {S : Option Addr} {ns cs : Nat} {some_ : List Int} (hA : SlAt evC H A n l) (hcp : n ≤ cp) (hS : SlAt inC H S ns some_) (hq : FitsQ H Q l some_) : HCalls Tryz.prog 12 [.slice A n cp, .slice S ns cs] H Q := by
  refine f12.ok _ _ _ _ _ _ ?_
  unfold f12
  unfold FitsQ at hq
  refine c14 hA fun H2 x2 => ⟨_, rfl, ?_⟩
  cases hv : validM l with
  | false => rw [hv] at hq; exact cndT rfl (hq H2 x2)
  | true =>
    rw [hv] at hq
    obtain ⟨hok, hlen⟩ := valid_ok hv
    refine cndF rfl (c38 (hA.ext x2) hcp hok hlen fun g c b v w sl H5 x5 B => ⟨_, rfl, some c, B.cl 1, ?_⟩)
    obtain ⟨kv, hm, hkv0⟩ := B.commits
    have hkv : ∀ t, kvGet kv t = (commitI l t).map natV := hkv0
    refine range_to hm fun i9 H10 hi9 x10 hI10 f10 => ?_
    have hib : i9 ≠ c := fun e => B.commits.live (e ▸ hi9)
    refine ⟨fun m s H' => ∃ left, m = left.length ∧ IterAt .i64 H' i9 c kv left ∧ Ext H5 H' ∧ ∀ t, comB l t = true → t ∉ left → okT l some_ t = true, ⟨_, kv.map (·.1), rfl, hI10, x10, fun t ht hn => ?_⟩, ?_⟩
    · exfalso
      apply hn
      have h1 := hkv t
      unfold comB at ht
      cases hc : commitI l t with
      | none => rw [hc] at ht; cases ht
      | some ci => rw [hc] at h1; exact List.mem_map.2 ⟨_, (kvGet_mem hm.keys).1 h1, rfl⟩
    rintro m s H12 ⟨left, rfl, hI, hx12, hno⟩
    refine jn_out ?_
    refine next_to hI hib (fun hl0 => cndF rfl ?_) (fun t u H16 htu htl hI16 hE f16 => ?_)
    · subst hl0
      have : fitsM l some_ = true := fitsM_iff.2 fun t ht => hno t ht (by simp)
      rw [this] at hq
      exact hq H12 ((x2.trans x5).trans hx12)
    · have h1 := (kvGet_mem hm.keys).2 htu
      rw [hkv t] at h1
      cases hc : commitI l t with
      | none => rw [hc] at h1; cases h1
      | some ci =>
      rw [hc] at h1
      cases h1
      have x16 : Ext H5 H16 := fun q o hq' => (f16 q fun e => by rw [e, hi9] at hq'; cases hq').trans (hx12 q o hq')
      have B16 := B.ext x16
      have hlt' : (left.filter fun y => decide (y ≠ t)).length < left.length := by
        have h1 := List.length_filter_le (fun y => decide (y ≠ t)) left
        by_cases e : (left.filter fun y => decide (y ≠ t)).length = left.length
        · have := List.length_filter_eq_length_iff.1 e t htl
          simp at this
        · omega
      have li : H16 i9 ≠ none := by obtain ⟨es, clock, since, seen, c0, hh, _⟩ := hI16; rw [hh]; simp
      refine ⟨t, rfl, _, rfl, cndT rfl (entry_to hE ⟨t, rfl, _, rfl, ?_⟩)⟩
      refine jn_intro (fun J => (some_.any (fun y => t == y) = true → J 41 H16) ∧ (some_.any (fun y => t == y) = false → J 39 H16)) ⟨fun hs => ?_, fun hs => ?_⟩ fun J hJ => c40 ((hS.ext (x2.trans x5)).ext x16) ⟨_, rfl, cndI (fun hs => hJ.1 hs) fun hs => hJ.2 hs⟩
      · refine ⟨fnOk 41 rfl, c41 B16 hok hlen hc fun H33 x33 => ⟨_, rfl, cndI (fun hb => ?_) fun hb => ⟨rfl, _, hlt', _, rfl, hI16.ext (ext_at x33 li) (ext_at x33 hI16.map.live'), x16.trans x33, fun t' h1 h2 => ?_⟩⟩⟩
        · have : fitsM l some_ = false := by
            cases hf : fitsM l some_ with
            | false => rfl
            | true =>
              have := fitsM_iff.1 hf t (by unfold comB; rw [hc]; rfl)
              unfold okT at this
              rw [hs, if_pos rfl] at this
              rw [this] at hb; cases hb
          rw [this] at hq
          exact hq H33 (((x2.trans x5).trans x16).trans x33)
        · by_cases e : t' = t
          · subst e; unfold okT; rw [hs, if_pos rfl]; simpa using hb
          · exact hno t' h1 fun h => h2 (List.mem_filter.2 ⟨h, by simpa using e⟩)
      · refine ⟨fnOk 39 rfl, c39 B16 hok hlen hc fun H33 x33 => ⟨_, rfl, cndI (fun hb => ?_) fun hb => ⟨rfl, _, hlt', _, rfl, hI16.ext (ext_at x33 li) (ext_at x33 hI16.map.live'), x16.trans x33, fun t' h1 h2 => ?_⟩⟩⟩
        · have : fitsM l some_ = false := by
            cases hf : fitsM l some_ with
            | false => rfl
            | true =>
              have := fitsM_iff.1 hf t (by unfold comB; rw [hc]; rfl)
              unfold okT at this
              rw [hs, if_neg (by decide)] at this
              rw [this] at hb; cases hb
          rw [this] at hq
          exact hq H33 (((x2.trans x5).trans x16).trans x33)
        · by_cases e : t' = t
          · subst e; unfold okT; rw [hs, if_neg (by decide)]; simpa using hb
          · exact hno t' h1 fun h => h2 (List.mem_filter.2 ⟨h, by simpa using e⟩)
theorem c16 (hA : SlAt evC H A n l) (hcp : n ≤ cp) (hq : FitsQ H Q l []) : HCalls Tryz.prog 16 [.slice A n cp] H Q := by
  refine f16.ok _ _ _ ?_
  unfold f16
  exact c12 hA hcp ⟨rfl, .inl rfl, by decide⟩ fun H' hx => ⟨_, _, rfl, hq H' hx⟩
def all200 : List Int := (List.range 200).map fun (j : Nat) => (j : Int) + 1
theorem c17 (hA : SlAt evC H A n l) (hcp : n ≤ cp) (hq : FitsQ H Q l all200) : HCalls Tryz.prog 17 [.slice A n cp] H Q := by
  refine f17.ok _ _ _ ?_
  unfold f17
  refine loop_to 200 (fun i s H' => ∃ S cs, s = (((S, i, cs), (((i + 1 : Nat) : Int), ())), ()) ∧ Ext H H' ∧ Row H H' S i cs 1 (((List.range i).map fun (j : Nat) => (j : Int) + 1).flatMap inC)) ⟨none, 0, rfl, Ext.refl _, Row.nil⟩ ?_
  rintro i s H2 next hi ⟨S, cs, rfl, hx, R⟩ hnext
  dsimp only
  have ei : IntKind.i64.wrap (((i + 1 : Nat) : Int) + 1) = ((i + 1 + 1 : Nat) : Int) := by rw [wrap_id (by omega) (by omega)]; rfl
  have hln : ((List.range i).map fun (j : Nat) => (j : Int) + 1).length = i := by simp
  by_cases h : i < 200
  · refine cndT (decide_eq_true (by omega)) fun g4 hg4 => ?_
    have R' : Row H H2 S ((List.range i).map fun (j : Nat) => (j : Int) + 1).length cs 1 (((List.range i).map fun (j : Nat) => (j : Int) + 1).flatMap inC) := by rw [hln]; exact R
    have key := Row.push1 (w := ((i : Int) + 1)) (f := inC) (k := 1) (ty := 3) (eby := 8) (K := fun A6 n6 c6 H7 => KeepX [some (.v (.slice A n cp))] [] ∧ next (((A6, n6, c6), (IntKind.i64.wrap (((i + 1 : Nat) : Int) + 1), ())), ()) H7) (fun _ => rfl) (fun x v hv => by obtain rfl := List.mem_singleton.1 hv; rfl) (by omega) R' hx (by rw [hln]; unfold big; omega) hg4 fun A2 c2 H7 R2 x7 _ _ => ⟨rfl, ?_⟩
    · rw [hln] at key; exact key
    · have e : ((List.range i).map fun (j : Nat) => (j : Int) + 1) ++ [(i : Int) + 1] = (List.range (i + 1)).map fun (j : Nat) => (j : Int) + 1 := by rw [List.range_succ, List.map_append]; rfl
      rw [e] at R2 ⊢
      have hl2 : ((List.range (i + 1)).map fun (j : Nat) => (j : Int) + 1).length = i + 1 := by simp
      rw [hl2] at R2 ⊢
      exact hnext _ _ h ⟨A2, c2, by rw [ei], x7, R2⟩
  · obtain rfl : i = 200 := by omega
    exact cndF (decide_eq_false (by omega)) (c12 (hA.ext hx) hcp ⟨by simp, R.cells, by simp [huge]⟩ fun H' hx' => ⟨_, _, rfl, hq H' (hx.trans hx')⟩)
end
end Go.Proofs.YtibhpoikhkokiaaGreat.Hw

/- slices.Sorted and maps.Keys: the kit's contracts, laid at this program (by the kit's own tool). -/
namespace Go.Proofs
open Go.Shelf
def Tryz.keysA_ren : Go.Shelf.Ren := ⟨fun | 7 => 63 | 10 => 93 | n => n, fun | 23 => 69 | 26 => 3 | 3 => 23 | 28 => 88 | 0 => 0 | 27 => 87 | 33 => 63 | 4 => 4 | n => n, fun | n => n⟩
theorem Tryz.keysA : Go.Proofs.SlLaysZI.n7 Tryz.prog Tryz.keysA_ren := {
  mixed := by kernel_rfl
  f7 := ⟨Tryz.f63.name, by decide, Tryz.func63.trans (congrArg some (by kernel_rfl))⟩
  f10 := ⟨Tryz.f93.name, by decide, Tryz.func93.trans (congrArg some (by kernel_rfl))⟩
  t0 := Tryz.underlying0
  a0 := Tryz.isAgg0
  z0 := Tryz.sizeOf0
  v0 := Tryz.zeroValue0
  t4 := Tryz.underlying4
  a4 := Tryz.isAgg4
  z4 := Tryz.sizeOf4
  v4 := Tryz.zeroValue4
  t23 := Tryz.underlying69
  a23 := Tryz.isAgg69
  z23 := Tryz.sizeOf69
  v23 := Tryz.zeroValue69
  t26 := Tryz.underlying3
  a26 := Tryz.isAgg3
  z26 := Tryz.sizeOf3
  v26 := Tryz.zeroValue3
  t27 := Tryz.underlying87
  a27 := Tryz.isAgg87
  z27 := Tryz.sizeOf87
  v27 := Tryz.zeroValue87
  t28 := Tryz.underlying88
  a28 := Tryz.isAgg88
  z28 := Tryz.sizeOf88
  v28 := Tryz.zeroValue88
  t33 := Tryz.underlying63
  a33 := Tryz.isAgg63
  z33 := Tryz.sizeOf63
  v33 := Tryz.zeroValue63 }
def Tryz.keysB_ren : Go.Shelf.Ren := ⟨fun | 7 => 68 | 10 => 97 | n => n, fun | 23 => 94 | 26 => 3 | 3 => 4 | 28 => 88 | 0 => 0 | 27 => 87 | 33 => 63 | 4 => 4 | n => n, fun | n => n⟩
theorem Tryz.keysB : Go.Proofs.SlLaysZI.n7 Tryz.prog Tryz.keysB_ren := {
  mixed := by kernel_rfl
  f7 := ⟨Tryz.f68.name, by decide, Tryz.func68.trans (congrArg some (by kernel_rfl))⟩
  f10 := ⟨Tryz.f97.name, by decide, Tryz.func97.trans (congrArg some (by kernel_rfl))⟩
  t0 := Tryz.underlying0
  a0 := Tryz.isAgg0
  z0 := Tryz.sizeOf0
  v0 := Tryz.zeroValue0
  t4 := Tryz.underlying4
  a4 := Tryz.isAgg4
  z4 := Tryz.sizeOf4
  v4 := Tryz.zeroValue4
  t23 := Tryz.underlying94
  a23 := Tryz.isAgg94
  z23 := Tryz.sizeOf94
  v23 := Tryz.zeroValue94
  t26 := Tryz.underlying3
  a26 := Tryz.isAgg3
  z26 := Tryz.sizeOf3
  v26 := Tryz.zeroValue3
  t27 := Tryz.underlying87
  a27 := Tryz.isAgg87
  z27 := Tryz.sizeOf87
  v27 := Tryz.zeroValue87
  t28 := Tryz.underlying88
  a28 := Tryz.isAgg88
  z28 := Tryz.sizeOf88
  v28 := Tryz.zeroValue88
  t33 := Tryz.underlying63
  a33 := Tryz.isAgg63
  z33 := Tryz.sizeOf63
  v33 := Tryz.zeroValue63 }
def Tryz.sortedA_ren : Go.Shelf.Ren := ⟨fun | 6 => 62 | 8 => 92 | 9 => 79 | 11 => 107 | 13 => 101 | 12 => 104 | 23 => 121 | 24 => 122 | 14 => 124 | 15 => 125 | 16 => 126 | 17 => 127 | 18 => 128 | 19 => 129 | 20 => 130 | 21 => 131 | 22 => 132 | 25 => 141 | 26 => 137 | 27 => 138 | 28 => 142 | 29 => 143 | 30 => 123 | 31 => 145 | n => n, fun | 26 => 3 | 28 => 88 | 24 => 23 | 0 => 0 | 3 => 3 | 37 => 127 | 48 => 141 | 50 => 143 | 4 => 4 | 40 => 135 | 39 => 134 | 45 => 114 | 5 => 5 | 9 => 9 | 51 => 149 | 55 => 153 | 57 => 157 | 58 => 158 | 33 => 63 | n => n, fun | n => n⟩
theorem Tryz.sortedA : Go.Proofs.SlLaysZI.n6 Tryz.prog Tryz.sortedA_ren := {
  mixed := by kernel_rfl
  f6 := ⟨Tryz.f62.name, by decide, Tryz.func62.trans (congrArg some (by kernel_rfl))⟩
  f8 := ⟨Tryz.f92.name, by decide, Tryz.func92.trans (congrArg some (by kernel_rfl))⟩
  f11 := ⟨Tryz.f107.name, by decide, Tryz.func107.trans (congrArg some (by kernel_rfl))⟩
  t0 := Tryz.underlying0
  a0 := Tryz.isAgg0
  z0 := Tryz.sizeOf0
  v0 := Tryz.zeroValue0
  t24 := Tryz.underlying23
  a24 := Tryz.isAgg23
  z24 := Tryz.sizeOf23
  v24 := Tryz.zeroValue23
  t26 := Tryz.underlying3
  a26 := Tryz.isAgg3
  z26 := Tryz.sizeOf3
  v26 := Tryz.zeroValue3
  t28 := Tryz.underlying88
  a28 := Tryz.isAgg88
  z28 := Tryz.sizeOf88
  v28 := Tryz.zeroValue88
  i26 := by kernel_rfl }
def Tryz.sortA_ren : Go.Shelf.Ren := ⟨fun | 5 => 79 | 8 => 101 | 7 => 104 | 19 => 121 | 20 => 122 | 10 => 124 | 11 => 125 | 12 => 126 | 13 => 127 | 14 => 128 | 15 => 129 | 16 => 130 | 17 => 131 | 18 => 132 | 30 => 141 | 31 => 137 | 32 => 138 | 33 => 142 | 34 => 143 | 35 => 123 | 40 => 145 | n => n, fun | 23 => 23 | 25 => 3 | 3 => 3 | 32 => 127 | 22 => 23 | 0 => 0 | 44 => 141 | 46 => 143 | 4 => 4 | 36 => 135 | 35 => 134 | 41 => 114 | 5 => 5 | 9 => 9 | 53 => 149 | 57 => 153 | 63 => 157 | 64 => 158 | n => n, fun | n => n⟩
theorem Tryz.sortA : Go.Proofs.SlLaysM.n5 Tryz.prog Tryz.sortA_ren := {
  mixed := by kernel_rfl
  f5 := ⟨Tryz.f79.name, by decide, Tryz.func79.trans (congrArg some (by kernel_rfl))⟩
  f7 := ⟨Tryz.f104.name, by decide, Tryz.func104.trans (congrArg some (by kernel_rfl))⟩
  f8 := Tryz.func101.trans (congrArg some (by kernel_rfl))
  f10 := ⟨Tryz.f124.name, by decide, Tryz.func124.trans (congrArg some (by kernel_rfl))⟩
  f11 := ⟨Tryz.f125.name, by decide, Tryz.func125.trans (congrArg some (by kernel_rfl))⟩
  f12 := ⟨Tryz.f126.name, by decide, Tryz.func126.trans (congrArg some (by kernel_rfl))⟩
  f13 := ⟨Tryz.f127.name, by decide, Tryz.func127.trans (congrArg some (by kernel_rfl))⟩
  f14 := ⟨Tryz.f128.name, by decide, Tryz.func128.trans (congrArg some (by kernel_rfl))⟩
  f15 := ⟨Tryz.f129.name, by decide, Tryz.func129.trans (congrArg some (by kernel_rfl))⟩
  f16 := ⟨Tryz.f130.name, by decide, Tryz.func130.trans (congrArg some (by kernel_rfl))⟩
  f17 := ⟨Tryz.f131.name, by decide, Tryz.func131.trans (congrArg some (by kernel_rfl))⟩
  f18 := ⟨Tryz.f132.name, by decide, Tryz.func132.trans (congrArg some (by kernel_rfl))⟩
  f19 := Tryz.func121.trans (congrArg some (by kernel_rfl))
  f20 := Tryz.func122.trans (congrArg some (by kernel_rfl))
  f30 := ⟨Tryz.f141.name, by decide, Tryz.func141.trans (congrArg some (by kernel_rfl))⟩
  f31 := Tryz.func137.trans (congrArg some (by kernel_rfl))
  f32 := Tryz.func138.trans (congrArg some (by kernel_rfl))
  f33 := ⟨Tryz.f142.name, by decide, Tryz.func142.trans (congrArg some (by kernel_rfl))⟩
  f34 := ⟨Tryz.f143.name, by decide, Tryz.func143.trans (congrArg some (by kernel_rfl))⟩
  f35 := ⟨Tryz.f123.name, by decide, Tryz.func123.trans (congrArg some (by kernel_rfl))⟩
  f40 := ⟨Tryz.f145.name, by decide, Tryz.func145.trans (congrArg some (by kernel_rfl))⟩
  t0 := Tryz.underlying0
  a0 := Tryz.isAgg0
  z0 := Tryz.sizeOf0
  v0 := Tryz.zeroValue0
  t3 := Tryz.underlying3
  a3 := Tryz.isAgg3
  z3 := Tryz.sizeOf3
  v3 := Tryz.zeroValue3
  t4 := Tryz.underlying4
  a4 := Tryz.isAgg4
  z4 := Tryz.sizeOf4
  v4 := Tryz.zeroValue4
  t5 := Tryz.underlying5
  a5 := Tryz.isAgg5
  z5 := Tryz.sizeOf5
  v5 := Tryz.zeroValue5
  t9 := Tryz.underlying9
  a9 := Tryz.isAgg9
  z9 := Tryz.sizeOf9
  v9 := Tryz.zeroValue9
  t22 := Tryz.underlying23
  a22 := Tryz.isAgg23
  z22 := Tryz.sizeOf23
  v22 := Tryz.zeroValue23
  t23 := Tryz.underlying23
  a23 := Tryz.isAgg23
  z23 := Tryz.sizeOf23
  v23 := Tryz.zeroValue23
  t25 := Tryz.underlying3
  a25 := Tryz.isAgg3
  z25 := Tryz.sizeOf3
  v25 := Tryz.zeroValue3
  t32 := Tryz.underlying127
  a32 := Tryz.isAgg127
  z32 := Tryz.sizeOf127
  v32 := Tryz.zeroValue127
  t35 := Tryz.underlying134
  a35 := Tryz.isAgg134
  z35 := Tryz.sizeOf134
  v35 := Tryz.zeroValue134
  t36 := Tryz.underlying135
  a36 := Tryz.isAgg135
  z36 := Tryz.sizeOf135
  v36 := Tryz.zeroValue135
  t41 := Tryz.underlying114
  a41 := Tryz.isAgg114
  z41 := Tryz.sizeOf114
  v41 := Tryz.zeroValue114
  t44 := Tryz.underlying141
  a44 := Tryz.isAgg141
  z44 := Tryz.sizeOf141
  v44 := Tryz.zeroValue141
  t46 := Tryz.underlying143
  a46 := Tryz.isAgg143
  z46 := Tryz.sizeOf143
  v46 := Tryz.zeroValue143
  t53 := Tryz.underlying149
  a53 := Tryz.isAgg149
  z53 := Tryz.sizeOf149
  v53 := Tryz.zeroValue149
  t57 := Tryz.underlying153
  a57 := Tryz.isAgg153
  z57 := Tryz.sizeOf153
  v57 := Tryz.zeroValue153
  t63 := Tryz.underlying157
  a63 := Tryz.isAgg157
  z63 := Tryz.sizeOf157
  v63 := Tryz.zeroValue157
  t64 := Tryz.underlying158
  a64 := Tryz.isAgg158
  z64 := Tryz.sizeOf158
  v64 := Tryz.zeroValue158 }
end Go.Proofs

/- Histories: sorted keys of a map (slices.Sorted of maps.Keys), by the kit's contract. -/
set_option linter.unusedVariables false
set_option linter.unusedSimpArgs false
namespace Go.Proofs.YtibhpoikhkokiaaGreat.Hw
open Go Go.Proofs Go.Sort
section
variable {H0 H : Hp} {Q : Value → Hp → Prop} {w : World}
/-- How any value reads here: as nothing. -/
def anyR : Value → Option (DataW Nat × List MemPlace) := fun _ => some (.lit (.bool true), [])
def keysIn (kv : KV) : Prop := ∀ x ∈ kv.map (·.1), -9223372036854775808 ≤ x ∧ x < 9223372036854775808
theorem key_wf {x : Int} (h : -9223372036854775808 ≤ x ∧ x < 9223372036854775808) : (Lit.int .i64 x).wf = true := by
  simp only [Lit.wf, IntKind.min, IntKind.max, IntKind.bits, IntKind.signed, Bool.and_eq_true, decide_eq_true_eq]
  obtain ⟨h1, h2⟩ := h
  constructor
  · refine Int.le_trans ?_ h1; decide
  · have : x ≤ 9223372036854775807 := by omega
    refine Int.le_trans this ?_; decide
theorem owns_map {m : Nat} {kv : KV} (hw : Has w H) (h : MapAt .i64 H m kv) (hk : keysIn kv) (hl : kv.length ≤ 1000000) : ∃ D : DataW Nat, w.ownsMap Tryz.prog 3 anyR m kv.length D ∧ Maps.size D = kv.length ∧ (Go.intKeys D).Perm (kv.map (·.1)) := by
  obtain ⟨es, clock, hb, he⟩ := h
  have hsz := esOf_len he
  have hkey : ∀ x ∈ es.toList, ∃ y, x.key = .int .i64 y ∧ _root_.Go.keyOf Tryz.prog 3 x.key = some (.int .i64 y) := fun x hx => by
    obtain ⟨y, h1, h2⟩ := he.pair hx
    have hr := hk y (List.mem_map_of_mem (f := (·.1)) h2)
    exact ⟨y, h1, by rw [h1]; exact Go.Maps.keyOf_int_mk Tryz.underlying3 (key_wf hr)⟩
  have hrd : ∀ x ∈ es.toList, ∃ y, x.key = .int .i64 y ∧ Go.WideElems.rd Tryz.prog 3 anyR x = some (.int .i64 y, .lit (.bool true)) := fun x hx => by
    obtain ⟨y, h1, h2⟩ := hkey x hx
    refine ⟨y, h1, ?_⟩
    unfold Go.WideElems.rd anyR
    rw [h2]; rfl
  have F : Go.WideElems.Fit Tryz.prog 3 anyR es clock := ⟨by rw [hsz]; refine Nat.le_trans hl ?_; decide, ⟨he.2.2.1, he.2.1, he.keyD⟩, fun x hx => by obtain ⟨y, _, h⟩ := hrd x hx; exact ⟨_, h⟩⟩
  refine ⟨_, ⟨es, clock, hw m _ hb, F, Nat.le_of_eq hsz, rfl⟩, ?_, ?_⟩
  · show List.length _ = _
    rw [(Go.WideShapes.sorted_perm _).length_eq, List.length_map]
    simpa using hsz
  · show (List.map _ _).Perm _
    refine ((Go.WideShapes.sorted_perm _).map _).trans ?_
    rw [List.map_map]
    have e1 : es.toList.map ((fun p : Lit × DataW Nat => Go.intOf p.1) ∘ Go.WideElems.rg Tryz.prog 3 anyR) = (es.toList.map (fun e => (e.key, e.val))).map (fun p => match p.1 with | .int _ y => y | _ => 0) := by
      rw [List.map_map]
      refine List.map_congr_left fun x hx => ?_
      obtain ⟨y, h1, h2⟩ := hrd x hx
      simp only [Function.comp_apply]
      rw [Go.WideElems.rg_of h2, h1]; rfl
    rw [e1, he.1, List.map_map]
    exact List.Perm.refl _
theorem sorts_in (m : Nat) : AnyZI.SortsIn Tryz.prog Tryz.sortedA_ren Fence.wide m :=
  ⟨fun blk off cap ss W hH hblk hsz => callsIn_wide.2 (AnyM.slices_Sort_int Tryz.sortA blk off cap ss W hH hblk hsz),
   fun p cap W => callsIn_wide.2 (AnyM.slices_Sort_int_none Tryz.sortA p cap W)⟩
theorem sorted_any {g m fn nn : Nat} {D : DataW Nat} (hseq : SeqGives Fence.wide 2 Tryz.prog fn #[.pointer (some ⟨g, 0, none⟩)] encZ (fun ss => ss.Perm (Go.intKeys D)) (Maps.size D) w) (hsz : Maps.size D ≤ 1000000)
    (hf : ∀ args w, (callFunc fn args).run Tryz.prog w = .ok (.enter fn args) w) :
    Calls Tryz.prog 62 #[.func (.func fn) #[] #[.pointer (some ⟨g, 0, none⟩)]] w fun e w' => ∃ (v : Value) (ss : List Int), e = .returned v ∧ ss.Perm (Go.intKeys D) ∧
      w'.ownsRow w.heap.size 3 1 v ss.length ((ss.mergeSort (fun x y => decide (x ≤ y))).map encZ) ∧ (v = .slice none 0 0 ↔ ss = []) ∧ Go.RowKit.Below w.heap.size w w' := by
  refine (callsIn_wide (n := 5)).1 ?_
  exact AnyZI.sorted_in Tryz.sortedA Fence.wide 5 trivial trivial trivial trivial rfl (by omega) (sorts_in _) (enters_of Tryz.func79 (by kernel_rfl) rfl) fn _ trivial hf _ _ (Nat.le_trans hsz (by decide)) (by omega) _ hseq
theorem c62_of {g m fn ty : Nat} {kv : KV} (hg : H g = some (.cells #[.map (some m)] ty (0, 0))) (hm : MapAt .i64 H m kv) (hk : keysIn kv) (hl : kv.length ≤ 1000000)
    (hf : ∀ args w, (callFunc fn args).run Tryz.prog w = .ok (.enter fn args) w)
    (hs : ∀ (w : World) (D : DataW Nat), g < w.heap.size → w.cell? ⟨g, 0, none⟩ = some (.map (some m)) → w.ownsMap Tryz.prog 3 anyR m kv.length D → SeqGives Fence.wide 2 Tryz.prog fn #[.pointer (some ⟨g, 0, none⟩)] encZ (fun ss => ss.Perm (Go.intKeys D)) (Maps.size D) w)
    (hq : ∀ H' A c, RowI H H' A c (sortM (kv.map (·.1))) → Ext H H' → Q (.slice A kv.length c) H') : HCalls Tryz.prog 62 [.func (.func fn) #[] #[.pointer (some ⟨g, 0, none⟩)]] H Q := by
  intro w hw
  obtain ⟨D, hown, hsz, hp⟩ := owns_map hw hm hk hl
  have hgw := hw g _ hg
  have hlt : g < w.heap.size := (Array.getElem?_eq_some_iff.1 hgw).1
  have hcell : w.cell? ⟨g, 0, none⟩ = some (.map (some m)) := by simp [World.cell?, hgw]
  refine Calls.mono (sorted_any (m := m) (nn := kv.length) (hs w D hlt hcell hown) (by omega) hf) ?_
  rintro e w' ⟨v, ss, rfl, hperm, hrow, hnil, hb⟩
  have hpp : ss.Perm (kv.map (·.1)) := hperm.trans hp
  have hms : (ss.mergeSort fun x y => decide (x ≤ y)) = sortM (kv.map (·.1)) := mergeSort_of_perm_i hpp
  have hlen : ss.length = kv.length := by rw [hpp.length_eq]; simp
  have hsl : (sortM (kv.map (·.1))).length = kv.length := by unfold sortM; rw [List.length_mergeSort]; simp
  have hold : ∀ b o, H b = some o → w'.heap[b]? = some o := fun b o hbo => by
    rw [hb.block b (Array.getElem?_eq_some_iff.1 (hw b o hbo)).1]; exact hw b o hbo
  obtain ⟨h1, ⟨rfl, h2⟩ | ⟨gb, cap, cur, rfl, hbase, hgb, r1, r2, r3, r4⟩⟩ := hrow
  · have h0 : kv.length = 0 := by omega
    refine ⟨_, H, rfl, ?_, hold, ⟨hb.os, hb.tape, hb.output, hb.size, fun b hlb _ => hb.block b hlb⟩, fun b hb => .inl hb⟩
    have hq' := hq H none 0 ?_ (Ext.refl H)
    · rw [h0] at hq'; exact hq'
    · have : sortM (kv.map (·.1)) = [] := List.eq_nil_of_length_eq_zero (by omega)
      rw [this]; exact Row.nil
  · have hgn : H gb = none := by
      cases hx : H gb with
      | none => rfl
      | some o => have := (Array.getElem?_eq_some_iff.1 (hw gb o hx)).1; omega
    refine ⟨_, upd gb (.cells cur 3 (0, 0)) H, rfl, ?_, fun b o hbo => ?_, ⟨hb.os, hb.tape, hb.output, hb.size, fun b hlb _ => hb.block b hlb⟩, fun b hbn => ?_⟩
    · rw [hlen]
      refine hq _ _ _ ⟨by rw [inC_len], by rw [hsl]; omega, .inr ⟨gb, cur.toList, 3, rfl, upd_at, ?_, ?_, hgn⟩⟩ (Ext.new hgn)
      · rw [Array.length_toList]; omega
      · rw [hms] at r4
        rw [inC_map, hsl, ← hlen, r4]
    · rcases upd_some hbo with ⟨rfl, rfl⟩ | ⟨hne, hbo⟩
      · exact hgb
      · exact hold b o hbo
    · by_cases e : b = gb
      · subst e; exact .inr hbase
      · rw [upd_other e] at hbn; exact .inl hbn
/-- Sorted keys of a graph. -/
theorem c62a {g m ty : Nat} {kv : KV} (hg : H g = some (.cells #[.map (some m)] ty (0, 0))) (hm : MapAt .i64 H m kv) (hk : keysIn kv) (hl : kv.length ≤ 1000000)
    (hq : ∀ H' A c, RowI H H' A c (sortM (kv.map (·.1))) → Ext H H' → Q (.slice A kv.length c) H') : HCalls Tryz.prog 62 [.func (.func 93) #[] #[.pointer (some ⟨g, 0, none⟩)]] H Q :=
  c62_of hg hm hk hl (enters_of Tryz.func93 (by kernel_rfl) rfl) (fun w D hlt hcell hown => AnyZI.keys_gives (ρ := Tryz.keysA_ren) { Tryz.keysA with } Fence.wide _ trivial rfl (by omega) g m kv.length D _ hlt hcell hown) hq
/-- Sorted keys of a set of numbers. -/
theorem c62b {g m ty : Nat} {kv : KV} (hg : H g = some (.cells #[.map (some m)] ty (0, 0))) (hm : MapAt .i64 H m kv) (hk : keysIn kv) (hl : kv.length ≤ 1000000)
    (hq : ∀ H' A c, RowI H H' A c (sortM (kv.map (·.1))) → Ext H H' → Q (.slice A kv.length c) H') : HCalls Tryz.prog 62 [.func (.func 97) #[] #[.pointer (some ⟨g, 0, none⟩)]] H Q :=
  c62_of hg hm hk hl (enters_of Tryz.func97 (by kernel_rfl) rfl) (fun w D hlt hcell hown => AnyZI.keys_gives (ρ := Tryz.keysB_ren) { Tryz.keysB with } Fence.wide _ trivial rfl (by omega) g m kv.length D _ hlt hcell hown) hq
/-- The iterators. -/
theorem c63 {m : Nat} (hq : ∀ g H', H g = none → H' = upd g (.cells #[.map (some m)] 69 (0, 0)) H → Q (.func (.func 93) #[] #[.pointer (some ⟨g, 0, none⟩)]) H') : HCalls Tryz.prog 63 [.map (some m)] H Q := by
  refine f63.ok (some m) ?_
  unfold f63
  exact fun g hg => hq g _ hg rfl
theorem c68 {m : Nat} (hq : ∀ g H', H g = none → H' = upd g (.cells #[.map (some m)] 94 (0, 0)) H → Q (.func (.func 97) #[] #[.pointer (some ⟨g, 0, none⟩)]) H') : HCalls Tryz.prog 68 [.map (some m)] H Q := by
  refine f68.ok (some m) ?_
  unfold f68
  exact fun g hg => hq g _ hg rfl
/-! ### a key is taken out -/
theorem delM_to {b : Nat} {kv : KV} {x : Int} {K : Hp → Prop} (h : MapAt .i64 H b kv) (hk : ∀ H', MapAt .i64 H' b (kvDel kv x) → (∀ q, q ≠ b → H' q = H q) → K H') : delF H .i64 (some b) x K := by
  obtain ⟨es, clock, h2, h3⟩ := h
  refine ⟨b, es, clock, rfl, h2, h3.ints, ?_⟩
  have hd := keysD_del (x := x) h3.2.2.2
  unfold delE
  rw [esOf_at h3.1]
  unfold kvDel at hk hd
  cases hf : kv.findIdx? (fun p => decide (x = p.1)) with
  | none =>
    rw [hf] at hk
    exact hk _ ⟨es, clock, upd_at, h3⟩ (fun q hq => upd_off hq)
  | some j =>
    rw [hf] at hk hd
    have hlen : es.size = kv.length := esOf_len h3
    rw [List.findIdx?_eq_some_iff_getElem] at hf
    obtain ⟨hlt, hp, _⟩ := hf
    have hl : (es.eraseIdxIfInBounds j).toList = es.toList.eraseIdx j := by
      unfold Array.eraseIdxIfInBounds
      rw [dif_pos (by omega)]
      simp
    have hsub : ∀ e, e ∈ (es.eraseIdxIfInBounds j).toList → e ∈ es.toList := fun e he => by rw [hl] at he; exact List.mem_of_mem_eraseIdx he
    refine hk _ ⟨es.eraseIdxIfInBounds j, clock, upd_at, ?_, ?_, fun e he => h3.2.2.1 e (hsub e he), hd⟩ (fun q hq => upd_off hq)
    · rw [hl, map_erase, h3.1, map_erase]
    · rw [hl]; exact h3.2.1.sublist ((List.eraseIdx_sublist _ _).map _)
/-- What sortM gives. -/
theorem sortM_mem {l : List Int} {x : Int} : x ∈ sortM l ↔ x ∈ l := (List.mergeSort_perm l _).mem_iff
end
end Go.Proofs.YtibhpoikhkokiaaGreat.Hw

/- Histories: Order. -/
set_option linter.unusedVariables false
set_option linter.unusedSimpArgs false
set_option maxRecDepth 20000
namespace Go.Proofs.YtibhpoikhkokiaaGreat.Hw
open Go Go.Proofs
/-- Nothing that is left has an arc to it. -/
def fr1 (rs : List Arc) (left : List Int) (t : Int) : Bool := !rs.any fun x => (x.b == t) && left.contains x.a
def freeM (rs : List Arc) (left : List Int) : Option Int := (sortM left).find? (fr1 rs left)
def takeOut (left : List Int) (t : Int) : List Int := left.filter fun y => decide (y ≠ t)
def orderM (rs : List Arc) : Nat → List Int → List Int → Option (List Int)
  | 0, left, out => if left.isEmpty then some out else none
  | n + 1, left, out => if left.isEmpty then some out else match freeM rs left with
    | none => none
    | some t => orderM rs n (takeOut left t) (out ++ [t])
/-- The committed transactions. -/
def comL (l : List Ev) : List Int := (l.filter fun x => x.op == 4).map (·.txn)
def SameEl (a b : List Int) : Prop := a.Nodup ∧ b.Nodup ∧ ∀ x, x ∈ a ↔ x ∈ b
theorem SameEl.perm {a b : List Int} (h : SameEl a b) : a.Perm b := (List.perm_ext_iff_of_nodup h.1 h.2.1).2 h.2.2
theorem SameEl.sort {a b : List Int} (h : SameEl a b) : sortM a = sortM b := mergeSort_of_perm_i h.perm
theorem SameEl.out {a b : List Int} {t : Int} (h : SameEl a b) : SameEl (takeOut a t) (takeOut b t) := ⟨h.1.filter _, h.2.1.filter _, fun x => by unfold takeOut; rw [List.mem_filter, List.mem_filter, h.2.2]⟩
theorem SameEl.con {a b : List Int} (h : SameEl a b) (x : Int) : a.contains x = b.contains x := by
  rw [Bool.eq_iff_iff, List.contains_iff_mem, List.contains_iff_mem]; exact h.2.2 x
theorem SameEl.fr {a b : List Int} {rs : List Arc} (h : SameEl a b) : fr1 rs a = fr1 rs b := by
  funext t
  unfold fr1
  congr 2
  funext x
  rw [h.con]
theorem SameEl.free {a b : List Int} {rs : List Arc} (h : SameEl a b) : freeM rs a = freeM rs b := by unfold freeM; rw [h.sort, h.fr]
theorem order_same {rs : List Arc} : ∀ {n : Nat} {a b out : List Int}, SameEl a b → orderM rs n a out = orderM rs n b out
  | 0, a, b, out, h => by
    unfold orderM
    rw [show a.isEmpty = b.isEmpty by rw [Bool.eq_iff_iff, List.isEmpty_iff_length_eq_zero, List.isEmpty_iff_length_eq_zero, h.perm.length_eq]]
  | n + 1, a, b, out, h => by
    unfold orderM
    rw [show a.isEmpty = b.isEmpty by rw [Bool.eq_iff_iff, List.isEmpty_iff_length_eq_zero, List.isEmpty_iff_length_eq_zero, h.perm.length_eq], h.free]
    cases freeM rs b with
    | none => rfl
    | some t =>
      show (if _ then _ else orderM rs n (takeOut a t) (out ++ [t])) = _
      rw [order_same (n := n) (out := out ++ [t]) h.out]
theorem order_end {rs : List Arc} {n : Nat} {left out : List Int} (h : left.isEmpty = true) : orderM rs n left out = some out := by
  cases n <;> unfold orderM <;> rw [if_pos h]
theorem free_mem {rs : List Arc} {left : List Int} {t : Int} (h : freeM rs left = some t) : t ∈ left ∧ fr1 rs left t = true := by
  unfold freeM at h
  exact ⟨sortM_mem.1 (List.mem_of_find?_eq_some h), List.find?_some h⟩
theorem takeOut_len {left : List Int} {t : Int} (hn : left.Nodup) (h : t ∈ left) : (takeOut left t).length + 1 = left.length := by
  have : (t :: takeOut left t).Perm left := by
    refine (List.perm_ext_iff_of_nodup (List.nodup_cons.2 ⟨fun h => by simp at h, hn.filter _⟩) hn).2 fun x => ?_
    rw [List.mem_cons, List.mem_filter]
    by_cases e : x = t
    · subst e; simp [h]
    · simp [e]
  have := this.length_eq
  rw [List.length_cons] at this
  exact this
theorem comL_mem {l : List Ev} {t : Int} : t ∈ comL l ↔ comB l t = true := by
  unfold comL
  rw [com_ex, List.mem_map]
  constructor
  · rintro ⟨x, hx, rfl⟩
    obtain ⟨h1, h2⟩ := List.mem_filter.1 hx
    obtain ⟨i, hi⟩ := List.getElem?_of_mem h1
    exact ⟨i, x, hi, isC_iff.2 ⟨by simpa using h2, rfl⟩⟩
  · rintro ⟨i, x, hx, hp⟩
    obtain ⟨o, e⟩ := isC_iff.1 hp
    exact ⟨x, List.mem_filter.2 ⟨List.mem_of_getElem? hx, by simp [o]⟩, e⟩
theorem comL_len {l : List Ev} : (comL l).length ≤ l.length := by
  unfold comL
  rw [List.length_map]
  exact List.length_filter_le _ _
theorem OkTo.front {l : List Ev} {n : Nat} (h : OkTo l n) (hn : n ≤ l.length) : OkTo (l.take n) n := fun i x hi hx => by
  rw [List.getElem?_take_of_lt hi] at hx
  rw [List.take_take, Nat.min_eq_left (by omega)]
  exact h i x hi hx
theorem comL_nodup : ∀ {n : Nat} {l : List Ev}, l.length = n → OkTo l l.length → (comL l).Nodup
  | 0, l, hn, _ => by rw [List.length_eq_zero_iff.1 hn]; exact List.nodup_nil
  | n + 1, l, hn, hok => by
    have hlt : n < l.length := by omega
    have hx : l[n]? = some l[n] := List.getElem?_eq_getElem hlt
    have e : l = l.take n ++ [l[n]] := by rw [← take_snoc hx, ← hn, List.take_length]
    have hpre : OkTo (l.take n) (l.take n).length := by
      have hl : (l.take n).length = n := by rw [List.length_take]; omega
      rw [hl]
      exact OkTo.front (fun i x hi => hok i x (by omega)) (by omega)
    have ih := comL_nodup (l := l.take n) (n := n) (by rw [List.length_take]; omega) hpre
    have hev := hok n _ (by omega) hx
    generalize hxx : l[n] = x at e hev
    have e2 : comL l = comL (l.take n) ++ if x.op == 4 then [x.txn] else [] := by
      conv => lhs; rw [e]
      unfold comL
      rw [List.filter_append, List.map_append]
      congr 1
      rw [List.filter_cons]
      cases x.op == 4 <;> rfl
    rw [e2]
    cases ho : x.op == 4 with
    | false => simpa using ih
    | true =>
      rw [if_pos rfl, List.nodup_append]
      refine ⟨ih, by simp, fun a ha b hb => ?_⟩
      rw [List.mem_singleton.1 hb]
      rintro rfl
      have h1 := comL_mem.1 ha
      obtain ⟨i, y, hy, hp⟩ := com_ex.1 h1
      obtain ⟨o, e3⟩ := isC_iff.1 hp
      have : endedM (l.take n) x.txn = true := by
        unfold endedM
        refine List.any_eq_true.2 ⟨y, List.mem_of_getElem? hy, ?_⟩
        unfold isE; rw [o, e3]; simp
      unfold evOk at hev
      rw [this] at hev
      simp at hev
def OrderQ (H : Hp) (Q : Value → Hp → Prop) (l : List Ev) : Prop :=
  (validM l = false → ∀ H', Ext H H' → Q (.tuple #[.slice none 0 0, .bool false, .int .i64 2]) H') ∧
  (validM l = true → (abTo l l.length || btTo l l.length) = true → ∀ H', Ext H H' → Q (.tuple #[.slice none 0 0, .bool false, .int .i64 0]) H') ∧
  (validM l = true → (abTo l l.length || btTo l l.length) = false → ∀ rs, ArcsOf l rs → (orderM rs (comL l).length (comL l) [] = none → ∀ H', Ext H H' → Q (.tuple #[.slice none 0 0, .bool false, .int .i64 0]) H') ∧
    ∀ o, orderM rs (comL l).length (comL l) [] = some o → ∀ A c H', Ext H H' → SlAt inC H' A o.length o → o.length ≤ c → Q (.tuple #[.slice A o.length c, .bool true, .int .i64 0]) H')
section
variable {H H' : Hp} {g c b v w : Nat} {sl : Int → Option Addr × Nat} {A : Option Addr} {n cp : Nat} {l : List Ev} {Q : Value → Hp → Prop}
theorem MapF.del {m : Nat} {f : Int → Option Value} {x : Int} {K : Hp → Prop} (h : MapF H m f) (hk : ∀ H', MapF H' m (fun y => if y = x then none else f y) → (∀ q, q ≠ m → H' q = H q) → K H') : delF H .i64 (some m) x K := by
  obtain ⟨kv, hm, hf⟩ := h
  refine delM_to hm fun H' h1 h2 => hk H' ⟨_, h1, fun y => ?_⟩ h2
  rw [kvGet_del hm.keys, hf]
/-- The keys of a set. -/
theorem set_keys {m : Nat} {L : List Int} (h : MapF H m (fun k => boolAt (L.contains k))) (hn : L.Nodup) : ∃ kv, MapAt .i64 H m kv ∧ SameEl (kv.map (·.1)) L := by
  obtain ⟨kv, hm, hf⟩ := h
  refine ⟨kv, hm, hm.keys, hn, fun k => ?_⟩
  have h1 : kvGet kv k = boolAt (L.contains k) := hf k
  constructor
  · intro hk
    obtain ⟨p, hp, rfl⟩ := List.mem_map.1 hk
    rw [(kvGet_mem hm.keys).2 hp] at h1
    cases hc : L.contains p.1 with
    | true => exact List.contains_iff_mem.1 hc
    | false => rw [hc] at h1; cases h1
  · intro hk
    rw [List.contains_iff_mem.2 hk] at h1
    exact List.mem_map.2 ⟨_, (kvGet_mem hm.keys).1 h1, rfl⟩
theorem c70 {gt gm m : Nat} {t : Int} {L : List Int} {x : Arc} (ht : cl H gt 0 = some (.int .i64 t)) (hm : cl H gm 0 = some (.map (some m))) (hM : MapF H m (fun k => boolAt (L.contains k))) (hq : Q (.bool ((x.b == t) && L.contains x.a)) H) :
    HCalls Tryz.prog 70 [.agg #[.int .i64 x.a, .int .i64 x.b, .int .i64 x.kind, .int .i64 x.item], .pointer (some ⟨gt, 0, none⟩), .pointer (some ⟨gm, 0, none⟩)] H Q := by
  refine f70.ok _ _ _ _ _ _ _ _ ?_
  unfold f70
  refine jn_intro (fun J => J ((x.b == t) && L.contains x.a)) hq fun J hJ => ⟨t, ht, cndI (fun h1 => ⟨some m, hm, hM.look ⟨L.contains x.a, by unfold boolAt; cases L.contains x.a <;> rfl, ?_⟩⟩) fun h1 => ?_⟩
  · rw [show (x.b == t) = true from h1, Bool.true_and] at hJ; exact hJ
  · rw [show (x.b == t) = false from h1, Bool.false_and] at hJ; exact hJ
theorem com_in {t : Int} (hok : OkTo l l.length) (h : comB l t = true) : 1 ≤ t ∧ t ≤ 200 := by
  obtain ⟨i, x, hx, hp⟩ := com_ex.1 h
  obtain ⟨o, e⟩ := isC_iff.1 hp
  have h1 := hok i x (List.getElem?_eq_some_iff.1 hx).1 hx
  unfold evOk at h1
  have h2 := (Bool.and_eq_true_iff.1 h1).1
  unfold inB at h2
  simp at h2
  omega
/-- Where a list's first one is found. -/
theorem find_at {p : Int → Bool} {L : List Int} {i : Nat} {t : Int} (hi : L[i]? = some t) (ht : p t = true) (hn : ∀ (j : Nat) (u : Int), j < i → L[j]? = some u → p u = false) : L.find? p = some t := by
  rw [List.find?_eq_some_iff_getElem]
  obtain ⟨h1, h2⟩ := List.getElem?_eq_some_iff.1 hi
  exact ⟨ht, i, h1, h2, fun j hj => by rw [hn j _ hj (List.getElem?_eq_getElem (by omega))]; rfl⟩
theorem find_no {p : Int → Bool} {L : List Int} (hn : ∀ (j : Nat) (u : Int), L[j]? = some u → p u = false) : L.find? p = none := by
  rw [List.find?_eq_none]
  intro x hx
  obtain ⟨j, hj⟩ := List.getElem?_of_mem hx
  rw [hn j x hj]; decide
theorem c29 (hA : SlAt evC H A n l) (hcp : n ≤ cp) (hq : OrderQ H Q l) : HCalls Tryz.prog 29 [.slice A n cp] H Q := by
  refine f29.ok _ _ _ ?_
  unfold f29
  obtain ⟨q1, q2, q3⟩ := hq
  refine c14 hA fun H2 x2 => ⟨_, rfl, ?_⟩
  cases hv : validM l with
  | false => exact cndT rfl (q1 hv H2 x2)
  | true =>
  obtain ⟨hok, hlen⟩ := valid_ok hv
  refine cndF rfl (c38 (hA.ext x2) hcp hok hlen fun g c b v w sl H5 x5 B => ⟨_, rfl, c44 B ⟨_, _, rfl, ?_⟩⟩)
  refine jn_intro (fun J => ∀ bb, bb = (abTo l l.length || btTo l l.length) → J bb) (fun bb hbb => cndI (fun ht => q2 hv (by rw [← hbb, ht]) H5 (x2.trans x5)) fun hf => ?_) fun J hJ => cndI (fun h => hJ _ (by rw [h]; rfl)) fun h => hJ _ (by rw [h]; rfl)
  refine c42 B hlen fun rs A15 c15 H14 ha hl x14 R15 => ⟨_, _, _, rfl, ?_⟩
  obtain ⟨q4, q5⟩ := q3 hv (by rw [← hbb, hf]) rs ha
  have x014 : Ext H H14 := (x2.trans x5).trans x14
  have hsl : SlAt arC H14 A15 rs.length rs := ⟨rfl, R15.cells, by unfold huge; omega⟩
  have B14 := B.ext x14
  refine MapF.new fun m16 H17 hm16 x17 o17 M17 => ?_
  intro g18 hg18
  refine ⟨[.map none], 94, upd_at, by simp, ?_⟩
  have e20 : (upd g18 (Obj.cells (setR [Value.map none] 0 [.map (some m16)]).toArray 94 (0, 0)) (upd g18 (Obj.cells [Value.map none].toArray 94 (0, 0)) H17)) g18 = some (.cells #[.map (some m16)] 94 (0, 0)) := upd_at
  have f20 : ∀ q, q ≠ g18 → (upd g18 (Obj.cells (setR [Value.map none] 0 [.map (some m16)]).toArray 94 (0, 0)) (upd g18 (Obj.cells [Value.map none].toArray 94 (0, 0)) H17)) q = H17 q := fun q hq => by rw [upd_off hq, upd_off hq]
  generalize (upd g18 (Obj.cells (setR [Value.map none] 0 [.map (some m16)]).toArray 94 (0, 0)) (upd g18 (Obj.cells [Value.map none].toArray 94 (0, 0)) H17)) = H20 at e20 f20 ⊢
  have hg14 : H14 g18 = none := x17.none hg18
  have hmg : m16 ≠ g18 := fun e => by rw [← e] at hg18; exact M17.live hg18
  have x20 : Ext H14 H20 := fun q o hq' => by
    rw [f20 q fun e => by rw [e, hg14] at hq'; cases hq']
    exact x17 q o hq'
  have M20 : MapF H20 m16 (fun _ => none) := M17.keep (f20 m16 hmg)
  have B20 := B14.ext x20
  refine ⟨some c, B20.cl 1, ?_⟩
  obtain ⟨kv, hm, hkv0⟩ := B20.commits
  have hkv : ∀ t, kvGet kv t = (commitI l t).map natV := hkv0
  have hkeys : ∀ t, t ∈ kv.map (·.1) ↔ comB l t = true := fun t => by
    have h1 := hkv t
    unfold comB
    constructor
    · intro hk
      obtain ⟨p, hp, rfl⟩ := List.mem_map.1 hk
      rw [(kvGet_mem hm.keys).2 hp] at h1
      cases hc : commitI l p.1 with
      | none => rw [hc] at h1; cases h1
      | some _ => rfl
    · intro hc
      cases hc2 : commitI l t with
      | none => rw [hc2] at hc; cases hc
      | some _ => rw [hc2] at h1; exact List.mem_map.2 ⟨_, (kvGet_mem hm.keys).1 h1, rfl⟩
  refine range_to hm fun i9 H10 hi9 x10 hI10 f10 => ?_
  have hib : i9 ≠ c := fun e => B20.commits.live (e ▸ hi9)
  have him : i9 ≠ m16 := fun e => M20.live (e ▸ hi9)
  have hig : i9 ≠ g18 := fun e => by rw [e, e20] at hi9; cases hi9
  have hcm : c ≠ m16 := fun e => B14.commits.live (e ▸ hm16)
  have h14i : H14 i9 = none := x20.none hi9
  refine ⟨fun m s H' => ∃ left, m = left.length ∧ IterAt .i64 H' i9 c kv left ∧ Ext H14 H' ∧ H' g18 = some (.cells #[.map (some m16)] 94 (0, 0)) ∧ MapF H' m16 (fun k => boolAt (comB l k && !left.contains k)), ⟨_, kv.map (·.1), rfl, hI10, x20.trans x10, x10 _ _ e20, (M20.keep (ext_at x10 M20.live)).congr fun k => ?_⟩, ?_⟩
  · have : (comB l k && !(kv.map (·.1)).contains k) = false := by
      cases hc : comB l k with
      | false => rfl
      | true => rw [List.contains_iff_mem.2 ((hkeys k).2 hc)]; rfl
    rw [this]; rfl
  rintro m s H12 ⟨left, rfl, hI, hx12, e12, M12⟩
  refine jn_out ?_
  refine next_to hI hib (fun hl0 => cndF rfl ?_) (fun t u H16 htu htl hI16 hE f16 => ?_)
  · subst hl0
    clear hI hI10 f10
    have M12' : MapF H12 m16 (fun k => boolAt ((comL l).contains k)) := M12.congr fun k => by
      congr 1
      rw [Bool.eq_iff_iff, List.contains_iff_mem, comL_mem]; simp
    refine loop_to (comL l).length (fun i s H' => ∃ L out S c', s = (((S, out.length, c'), ()), ()) ∧ Ext H14 H' ∧ H' g18 = some (.cells #[.map (some m16)] 94 (0, 0)) ∧ MapF H' m16 (fun k => boolAt (L.contains k)) ∧ L.Nodup ∧ (∀ x ∈ L, x ∈ comL l) ∧ L.length + i = (comL l).length ∧ Row H14 H' S out.length c' 1 (out.flatMap inC) ∧ orderM rs ((comL l).length - i) L out = orderM rs (comL l).length (comL l) [] ∧ out.length = i ∧ ¬ rowB S m16 ∧ ¬ rowB S g18)
      ⟨comL l, [], none, 0, rfl, hx12, e12, M12', comL_nodup rfl hok, fun x hx => hx, rfl, Row.nil, rfl, rfl, (fun ⟨o, z, h⟩ => by cases h), (fun ⟨o, z, h⟩ => by cases h)⟩ ?_
    rintro i s H43 next hi ⟨L, out, S, c', rfl, hx43, e43, M43, hLn, hLc, hLl, R43, hord, hol, hSm, hSg⟩ hnext
    dsimp only
    have hcl := comL_len (l := l)
    obtain ⟨kvL, hmL, hsame⟩ := set_keys M43 hLn
    have hkl : kvL.length = L.length := by have := hsame.perm.length_eq; rwa [List.length_map] at this
    refine ⟨some m16, cl_cells (cs := [.map (some m16)]) e43 0, size_to hmL ?_⟩
    rw [hkl]
    by_cases hL : L = []
    · subst hL
      refine cndF (decide_eq_false (by simp)) ?_
      rw [order_end rfl] at hord
      exact q5 out hord.symm S c' H43 (x014.trans hx43) ⟨rfl, R43.cells, by unfold huge; omega⟩ R43.2.1
    have hLp : 0 < L.length := List.length_pos_iff.2 hL
    refine cndT (decide_eq_true (by omega)) ?_
    have hunf : orderM rs ((comL l).length - i) L out = match freeM rs L with | none => none | some t => orderM rs ((comL l).length - (i + 1)) (takeOut L t) (out ++ [t]) := by
      rw [show (comL l).length - i = (comL l).length - (i + 1) + 1 by omega]
      conv => lhs; unfold orderM
      rw [if_neg (by rw [List.isEmpty_iff]; exact hL)]
    refine jn_intro (fun J => ∀ H', Ext H43 H' → (freeM rs L = none → J 0 H') ∧ ∀ t, freeM rs L = some t → J t H') (fun H67 x67 => ⟨fun hf => ?_, fun t hf => ?_⟩) fun J hJ => ?_
    · refine cndT rfl (q4 ?_ H67 (x014.trans (hx43.trans x67)))
      rw [← hord, hunf, hf]
    · obtain ⟨ht1, ht2⟩ := free_mem hf
      have htc := com_in hok (comL_mem.1 (hLc t ht1))
      have ht0 : (t == 0) = false := by simpa using (by omega : t ≠ 0)
      have M67 := M43.keep (ext_at x67 M43.live)
      refine cndF ht0 ⟨some m16, cl_cells (cs := [.map (some m16)]) (x67 _ _ e43) 0, M67.del fun H70 M70 f70 => ?_⟩
      have x70 : Ext H14 H70 := fun q o hq' => by
        rw [f70 q fun e => by rw [e, hm16] at hq'; cases hq']
        exact x67 _ _ (hx43 q o hq')
      have R70 : Row H14 H70 S out.length c' 1 (out.flatMap inC) := R43.keep fun q hq' => by
        rw [f70 q fun e => hSm (e ▸ hq')]
        exact ext_at x67 (R43.lt hq').1
      have e70 : H70 g18 = some (.cells #[.map (some m16)] 94 (0, 0)) := by rw [f70 g18 hmg.symm]; exact x67 _ _ e43
      intro g71 hg71
      refine Row.push1 (w := t) (f := inC) (k := 1) (ty := 3) (fun _ => rfl) (fun x v hv => by obtain rfl := List.mem_singleton.1 hv; rfl) (by omega) R70 x70 (by unfold big; omega) hg71 fun A2 c2 H74 R2 x74 fr2 nb2 => ⟨rfl, hnext _ _ (by omega) ?_⟩
      have k74 : ∀ q, H70 q ≠ none → ¬ rowB S q → H74 q = H70 q := fun q h1 h2 => by
        apply Classical.byContradiction
        intro hne
        rcases fr2 q hne with h | h
        · exact h2 h
        · exact h1 h
      have n74 : ∀ q, H70 q ≠ none → ¬ rowB S q → ¬ rowB A2 q := fun q h1 h2 h3 => by
        rcases nb2 q h3 with h | h
        · exact h2 h
        · exact h1 h
      have g70 : H70 g18 ≠ none := by rw [e70]; simp
      refine ⟨takeOut L t, out ++ [t], A2, c2, rfl, x74, (k74 g18 g70 hSg).trans e70, (M70.keep (k74 m16 M70.live hSm)).congr fun k => ?_, hLn.filter _, fun x hx => hLc x (List.mem_filter.1 hx).1, ?_, R2, ?_, ?_, n74 m16 M70.live hSm, n74 g18 g70 hSg⟩
      · by_cases e : k = t
        · subst e
          rw [if_pos rfl]
          have : (takeOut L k).contains k = false := by
            rw [← Bool.not_eq_true, List.contains_iff_mem]
            intro h
            have := (List.mem_filter.1 h).2
            simp at this
          rw [this]; rfl
        · rw [if_neg e]
          congr 1
          rw [Bool.eq_iff_iff, List.contains_iff_mem, List.contains_iff_mem]
          unfold takeOut
          rw [List.mem_filter]
          simp [e]
      · have := takeOut_len hLn ht1; omega
      · rw [← hord, hunf, hf]
      · rw [List.length_append, hol]; rfl
    · refine ⟨some m16, cl_cells (cs := [.map (some m16)]) e43 0, c68 fun g48 H49 hg48 hH49 => ⟨_, _, _, rfl, ?_⟩⟩
      have x49 : Ext H43 H49 := by rw [hH49]; exact Ext.new hg48
      refine c62b (m := m16) (ty := 94) (kv := kvL) (by rw [hH49]; exact upd_at) (hmL.keep (ext_at x49 M43.live)) (fun x hx => ?_) (by omega) fun H52 A53 c53 R53 x52 => ⟨_, _, _, rfl, ?_⟩
      · have := com_in hok (comL_mem.1 (hLc x ((hsame.2.2 x).1 hx)))
        omega
      rw [hsame.sort] at R53
      have hsl53 : SlAt inC H52 A53 (sortM L).length (sortM L) := ⟨rfl, R53.cells, by unfold sortM huge; rw [List.length_mergeSort]; omega⟩
      have hsll : (sortM L).length = kvL.length := by unfold sortM; rw [List.length_mergeSort]; omega
      have x4352 := x49.trans x52
      rw [← hsll]
      have hs53 := hsl53.lt
      refine loop_to (sortM L).length (fun i s H' => s = ((0, ((i : Int), ())), ()) ∧ Ext H52 H' ∧ ∀ (j : Nat) (u : Int), j < i → (sortM L)[j]? = some u → fr1 rs L u = false) ⟨rfl, Ext.refl _, fun j u hj => by omega⟩ ?_
      rintro i s H55 next2 hi ⟨rfl, hx55, hno⟩ hnext2
      dsimp only
      by_cases h : i < (sortM L).length
      · obtain ⟨t, ht⟩ := get_of h
        have ei : IntKind.i64.wrap ((i : Int) + 1) = ((i + 1 : Nat) : Int) := by rw [wrap_id (by omega) (by omega)]; rfl
        refine cndT (decide_eq_true (by omega)) ⟨by omega, by omega, rd_in (hsl53.ext hx55) ht fun q o _ k1 => ⟨t, by simpa using k1, fun g59 hg59 => ⟨[.int .i64 0], 3, upd_at, by simp, ?_⟩⟩⟩
        have e61 : (upd g59 (Obj.cells (setR [Value.int .i64 0] 0 [.int .i64 t]).toArray 3 (0, 0)) (upd g59 (Obj.cells [Value.int .i64 0].toArray 3 (0, 0)) H55)) g59 = some (.cells #[.int .i64 t] 3 (0, 0)) := upd_at
        have x61 : Ext H55 (upd g59 (Obj.cells (setR [Value.int .i64 0] 0 [.int .i64 t]).toArray 3 (0, 0)) (upd g59 (Obj.cells [Value.int .i64 0].toArray 3 (0, 0)) H55)) := fun q o hq' => by
          have : q ≠ g59 := fun e => by rw [e, hg59] at hq'; cases hq'
          rw [upd_off this, upd_off this]; exact hq'
        generalize (upd g59 (Obj.cells (setR [Value.int .i64 0] 0 [.int .i64 t]).toArray 3 (0, 0)) (upd g59 (Obj.cells [Value.int .i64 0].toArray 3 (0, 0)) H55)) = H61 at e61 x61 ⊢
        have x4361 := x4352.trans (hx55.trans x61)
        have rt : ∀ {H'}, Ext H61 H' → cl H' g59 0 = some (.int .i64 t) := fun {H'} hx => cl_cells (cs := [.int .i64 t]) (hx _ _ e61) 0
        refine c69 (g := fun x => (x.b == t) && L.contains x.a) (hsl.ext (hx43.trans x4361)) (Ext.refl _) (fnOk 70 rfl) (fun x hx H' Q' hx' hQ' => ?_) fun H63 x63 => ⟨_, rfl, cndI (fun hn => ⟨t, rt x63, ?_⟩) fun hn => ⟨rfl, hnext2 _ _ h ⟨by rw [ei], (hx55.trans x61).trans x63, fun j u hj hu => ?_⟩⟩⟩
        · have xm := x4361.trans hx'
          exact c70 (m := m16) (rt hx') (cl_cells (cs := [.map (some m16)]) (xm _ _ e43) 0) (M43.keep (ext_at xm M43.live)) (hQ' H' (Ext.refl _))
        · exact (hJ H63 (x4361.trans x63)).2 t (find_at ht hn fun j u hj hu => hno j u hj hu)
        · by_cases e : j = i
          · subst e
            rw [ht] at hu; cases hu
            exact hn
          · exact hno j u (by omega) hu
      · obtain rfl : i = (sortM L).length := by omega
        refine cndF (decide_eq_false (by omega)) ((hJ H55 (x4352.trans hx55)).1 (find_no fun j u hu => hno j u (List.getElem?_eq_some_iff.1 hu).1 hu))
  · have h1 := (kvGet_mem hm.keys).2 htu
    rw [hkv t] at h1
    cases hc : commitI l t with
    | none => rw [hc] at h1; cases h1
    | some ci =>
    rw [hc] at h1
    cases h1
    have hlt' : (left.filter fun y => decide (y ≠ t)).length < left.length := by
      have h1 := List.length_filter_le (fun y => decide (y ≠ t)) left
      by_cases e : (left.filter fun y => decide (y ≠ t)).length = left.length
      · have := List.length_filter_eq_length_iff.1 e t htl
        simp at this
      · omega
    refine ⟨t, rfl, _, rfl, cndT rfl (entry_to hE ⟨t, rfl, _, rfl, some m16, ?_, ?_⟩)⟩
    · exact cl_cells (cs := [.map (some m16)]) ((f16 g18 hig.symm).trans e12) 0
    · refine (M12.keep (f16 m16 him.symm)).put fun H41 M41 f41 => ⟨rfl, _, hlt', _, rfl, hI16.ext (f41 i9 him) (f41 c hcm), fun q o hq' => ?_, ?_, M41.congr fun k => ?_⟩
      · rw [f41 q (fun e => by rw [e, hm16] at hq'; cases hq'), f16 q (fun e => by rw [e, h14i] at hq'; cases hq')]
        exact hx12 q o hq'
      · rw [f41 g18 hmg.symm, f16 g18 hig.symm]; exact e12
      · by_cases e : k = t
        · subst e
          rw [if_pos rfl]
          have : (comB l k && !(left.filter fun y => decide (y ≠ k)).contains k) = true := by
            have h2 : comB l k = true := by unfold comB; rw [hc]; rfl
            have h3 : (left.filter fun y => decide (y ≠ k)).contains k = false := by
              rw [← Bool.not_eq_true, List.contains_iff_mem]
              intro h
              have := (List.mem_filter.1 h).2
              simp at this
            rw [h2, h3]; rfl
          rw [this]; rfl
        · rw [if_neg e]
          congr 2
          rw [Bool.eq_iff_iff, Bool.not_eq_true', Bool.not_eq_true', ← Bool.not_eq_true, ← Bool.not_eq_true, List.contains_iff_mem, List.contains_iff_mem, List.mem_filter]
          simp [e]
end
end Go.Proofs.YtibhpoikhkokiaaGreat.Hw

/- Histories: shortest circles, plain. -/
set_option linter.unusedVariables false
set_option linter.unusedSimpArgs false
namespace Go.Proofs.YtibhpoikhkokiaaGreat.Hw
open Go Go.Proofs
/-- From a transaction to another one in some arcs, over greater ones alone. -/
inductive WalkR (E : Int → List Int) (s : Int) : Nat → Int → Prop
  | zero : WalkR E s 0 s
  | succ {k : Nat} {x y : Int} : s < x → y ∈ E x → WalkR E s k y → WalkR E s (k + 1) x
theorem WalkR.ge {E : Int → List Int} {s : Int} {k : Nat} {x : Int} (h : WalkR E s k x) : s ≤ x := by
  cases h with
  | zero => exact Int.le_refl _
  | succ h _ _ => omega
/-- How far away each is. -/
def IsDist (E : Int → List Int) (s : Int) (d : Int → Option Nat) : Prop := ∀ x k, d x = some k ↔ WalkR E s k x ∧ ∀ j, WalkR E s j x → k ≤ j
theorem IsDist.one {E : Int → List Int} {s : Int} {d d' : Int → Option Nat} (h : IsDist E s d) (h' : IsDist E s d') : d = d' := by
  funext x
  cases hx : d x with
  | some k => exact ((h' x k).2 ((h x k).1 hx)).symm
  | none =>
    cases hx' : d' x with
    | none => rfl
    | some k => rw [(h x k).2 ((h' x k).1 hx')] at hx; cases hx
theorem min_ex {p : Nat → Prop} : ∀ {n : Nat}, p n → ∃ k, p k ∧ ∀ j, p j → k ≤ j := by
  intro n
  induction n using Nat.strongRecOn with
  | _ n ih =>
    intro h
    by_cases e : ∃ m, m < n ∧ p m
    · obtain ⟨m, h1, h2⟩ := e
      exact ih m h1 h2
    · exact ⟨n, h, fun j hj => Nat.le_of_not_lt fun hlt => e ⟨j, hlt, hj⟩⟩
theorem IsDist.ex {E : Int → List Int} {s : Int} {d : Int → Option Nat} (h : IsDist E s d) {x : Int} {n : Nat} (hw : WalkR E s n x) : ∃ k, d x = some k ∧ k ≤ n := by
  obtain ⟨k, h1, h2⟩ := min_ex (p := fun k => WalkR E s k x) hw
  exact ⟨k, (h x k).2 ⟨h1, h2⟩, h2 n hw⟩
/-- What the search knows. -/
structure Knows (E : Int → List Int) (s : Int) (U : List Int) (d : Int → Option Nat) : Prop where
  src : d s = some 0
  sound : ∀ x k, d x = some k → WalkR E s k x
  mem : ∀ x k, d x = some k → x ∈ U
  few : ∀ x k, d x = some k → k + 1 ≤ (U.filter fun u => (d u).isSome).length
def stepD (d : Int → Option Nat) (x : Int) (k : Nat) : Int → Option Nat := fun z => if z = x then some k else d z
def Closed (d : Int → Option Nat) (x y : Int) : Prop := ∀ k, d y = some k → ∃ k', d x = some k' ∧ k' ≤ k + 1
def wgt (U : List Int) (d : Int → Option Nat) : Nat := (U.map fun x => match d x with | some k => k | none => U.length).sum
theorem sum_le {f g : Int → Nat} : ∀ {U : List Int}, (∀ x ∈ U, f x ≤ g x) → (U.map f).sum ≤ (U.map g).sum
  | [], _ => Nat.le_refl _
  | a :: r, h => by
    have h1 := h a List.mem_cons_self
    have h2 := sum_le (U := r) fun x hx => h x (List.mem_cons_of_mem _ hx)
    simp only [List.map_cons, List.sum_cons]; omega
theorem sum_lt {f g : Int → Nat} : ∀ {U : List Int} {x : Int}, (∀ x ∈ U, f x ≤ g x) → x ∈ U → f x < g x → (U.map f).sum < (U.map g).sum
  | [], x, _, h, _ => by cases h
  | a :: r, x, h, hx, hlt => by
    have h1 := h a List.mem_cons_self
    have h3 : ∀ y ∈ r, f y ≤ g y := fun y hy => h y (List.mem_cons_of_mem _ hy)
    simp only [List.map_cons, List.sum_cons]
    rcases List.mem_cons.1 hx with e | hx
    · have h2 := sum_le h3
      subst e; omega
    · have h2 := sum_lt h3 hx hlt
      omega
theorem filt_le {p q : Int → Bool} : ∀ {U : List Int}, (∀ x ∈ U, p x = true → q x = true) → (U.filter p).length ≤ (U.filter q).length
  | [], _ => Nat.le_refl _
  | a :: r, h => by
    have h1 := h a List.mem_cons_self
    have h2 := filt_le (U := r) fun x hx => h x (List.mem_cons_of_mem _ hx)
    rw [List.filter_cons, List.filter_cons]
    cases hp : p a with
    | true => rw [h1 hp, if_pos rfl, if_pos rfl]; simpa using h2
    | false =>
      rw [if_neg (by decide)]
      cases q a with
      | true => rw [if_pos rfl, List.length_cons]; omega
      | false => rw [if_neg (by decide)]; exact h2
theorem filt_lt {p q : Int → Bool} : ∀ {U : List Int} {x : Int}, (∀ x ∈ U, p x = true → q x = true) → x ∈ U → p x = false → q x = true → (U.filter p).length < (U.filter q).length
  | [], x, _, h, _, _ => by cases h
  | a :: r, x, h, hx, h1, h2 => by
    have h3 : ∀ y ∈ r, p y = true → q y = true := fun y hy => h y (List.mem_cons_of_mem _ hy)
    rw [List.filter_cons, List.filter_cons]
    rcases List.mem_cons.1 hx with e | hx
    · subst e
      have := filt_le h3
      rw [h1, h2, if_neg (by decide), if_pos rfl, List.length_cons]; omega
    · have ih := filt_lt h3 hx h1 h2
      cases hp : p a with
      | true => rw [h a List.mem_cons_self hp, if_pos rfl, if_pos rfl, List.length_cons, List.length_cons]; omega
      | false =>
        rw [if_neg (by decide)]
        cases q a with
        | true => rw [if_pos rfl, List.length_cons]; omega
        | false => rw [if_neg (by decide)]; exact ih
section
variable {E : Int → List Int} {s : Int} {U : List Int} {d : Int → Option Nat}
theorem Knows.lt (h : Knows E s U d) {x : Int} {k : Nat} (hx : d x = some k) : k < U.length := by
  have := h.few x k hx
  have := List.length_filter_le (fun u => (d u).isSome) U
  omega
theorem Knows.start (hs : s ∈ U) : Knows E s U (fun z => if z = s then some 0 else none) := by
  refine ⟨if_pos rfl, fun x k h => ?_, fun x k h => ?_, fun x k h => ?_⟩
  · split at h
    · rename_i e; cases h; rw [e]; exact .zero
    · cases h
  · split at h
    · rename_i e; rw [e]; exact hs
    · cases h
  · split at h
    · cases h
      have : s ∈ U.filter fun u => (if u = s then some 0 else none : Option Nat).isSome := List.mem_filter.2 ⟨hs, by simp⟩
      exact List.length_pos_of_mem this
    · cases h
theorem Knows.step (h : Knows E s U d) {x y : Int} {k : Nat} (hx : x ∈ U) (hs : s < x) (hy : y ∈ E x) (hk : d y = some k) (hlt : ∀ k', d x = some k' → k + 1 < k') :
    Knows E s U (stepD d x (k + 1)) ∧ wgt U (stepD d x (k + 1)) < wgt U d := by
  have hmono : ∀ u, (d u).isSome = true → (stepD d x (k + 1) u).isSome = true := fun u hu => by
    unfold stepD; split
    · rfl
    · exact hu
  have hle := filt_le (U := U) (p := fun u => (d u).isSome) (q := fun u => (stepD d x (k + 1) u).isSome) fun u _ => hmono u
  refine ⟨⟨?_, fun z j hz => ?_, fun z j hz => ?_, fun z j hz => ?_⟩, ?_⟩
  · unfold stepD; rw [if_neg (by omega)]; exact h.src
  · unfold stepD at hz
    split at hz
    · rename_i e; cases hz; rw [e]; exact .succ hs hy (h.sound y k hk)
    · exact h.sound z j hz
  · unfold stepD at hz
    split at hz
    · rename_i e; rw [e]; exact hx
    · exact h.mem z j hz
  · unfold stepD at hz
    split at hz
    · cases hz
      cases hd : d x with
      | none =>
        have := filt_lt (U := U) (x := x) (p := fun u => (d u).isSome) (q := fun u => (stepD d x (k + 1) u).isSome) (fun u _ => hmono u) hx (by simp [hd]) (by unfold stepD; simp)
        have := h.few y k hk
        omega
      | some k' =>
        have := hlt k' hd
        have := h.few x k' hd
        omega
    · have := h.few z j hz
      omega
  · unfold wgt
    have hkl := h.lt hk
    have hxk : ∀ k', d x = some k' → k + 1 < k' := hlt
    refine sum_lt (x := x) (fun u hu => ?_) hx ?_
    · unfold stepD
      by_cases e : u = x
      · subst e
        rw [if_pos rfl]
        cases hd : d u with
        | none => exact hkl
        | some k' => have := hxk k' hd; show k + 1 ≤ k'; omega
      · rw [if_neg e]; exact Nat.le_refl _
    · unfold stepD
      rw [if_pos rfl]
      cases hd : d x with
      | none =>
        show k + 1 < U.length
        have h1 := h.few y k hk
        have h2 := filt_lt (U := U) (x := x) (p := fun u => (d u).isSome) (q := fun _ => true) (fun _ _ _ => rfl) hx (by simp [hd]) rfl
        have h3 := List.length_filter_le (fun _ => true) U
        omega
      | some k' => have := hxk k' hd; show k + 1 < k'; omega
/-- Nothing is left to be told. -/
theorem Knows.done (h : Knows E s U d) (hc : ∀ x y, s < x → y ∈ E x → Closed d x y) : IsDist E s d := by
  have key : ∀ j x, WalkR E s j x → ∃ k, d x = some k ∧ k ≤ j := by
    intro j x hw
    induction hw with
    | zero => exact ⟨0, h.src, Nat.le_refl _⟩
    | @succ k x y hs hy _ ih =>
      obtain ⟨k1, h1, h2⟩ := ih
      obtain ⟨k2, h3, h4⟩ := hc x y hs hy k1 h1
      exact ⟨k2, h3, by omega⟩
  intro x k
  constructor
  · intro hx
    refine ⟨h.sound x k hx, fun j hj => ?_⟩
    obtain ⟨k', h1, h2⟩ := key j x hj
    rw [hx] at h1; cases h1; exact h2
  · rintro ⟨h1, h2⟩
    obtain ⟨k', h3, h4⟩ := key k x h1
    have := h2 k' (h.sound x k' h3)
    rw [h3]; congr 1; omega
/-- The nearest one. -/
def bestC (s : Int) (d : Int → Option Nat) (st : Option Int) (y : Int) : Bool :=
  decide (s ≤ y) && ((d y).isSome && (match st with | none => true | some b => decide ((d y).getD 0 < (d b).getD 0)))
def bestS (s : Int) (d : Int → Option Nat) (st : Option Int) (y : Int) : Option Int := if bestC s d st y then some y else st
def bestM (E : Int → List Int) (s : Int) (d : Int → Option Nat) (at_ : Int) : Option Int := (E at_).foldl (bestS s d) none
theorem best_ok : ∀ {l pre : List Int} {st : Option Int}, ((st = none → ∀ y ∈ pre, s ≤ y → d y = none) ∧ ∀ b, st = some b → b ∈ pre ∧ s ≤ b ∧ ∃ k, d b = some k ∧ ∀ y ∈ pre, s ≤ y → ∀ j, d y = some j → k ≤ j) →
    ((l.foldl (bestS s d) st = none → ∀ y ∈ pre ++ l, s ≤ y → d y = none) ∧ ∀ b, l.foldl (bestS s d) st = some b → b ∈ pre ++ l ∧ s ≤ b ∧ ∃ k, d b = some k ∧ ∀ y ∈ pre ++ l, s ≤ y → ∀ j, d y = some j → k ≤ j)
  | [], pre, st, h => by simpa using h
  | a :: r, pre, st, h => by
    have e : pre ++ a :: r = (pre ++ [a]) ++ r := by simp
    rw [e, List.foldl_cons]
    refine best_ok (l := r) (pre := pre ++ [a]) ?_
    unfold bestS bestC
    by_cases hs : s ≤ a
    rotate_left
    · rw [if_neg (by simp [hs])]
      refine ⟨fun hn y hy hsy => ?_, fun b hb => ?_⟩
      · rcases List.mem_append.1 hy with hy | hy
        · exact h.1 hn y hy hsy
        · rw [List.mem_singleton.1 hy] at hsy; exact absurd hsy hs
      · obtain ⟨h1, h2, k, h3, h4⟩ := h.2 b hb
        refine ⟨List.mem_append_left _ h1, h2, k, h3, fun y hy hsy => ?_⟩
        rcases List.mem_append.1 hy with hy | hy
        · exact h4 y hy hsy
        · rw [List.mem_singleton.1 hy] at hsy; exact absurd hsy hs
    cases hd : d a with
    | none =>
      rw [if_neg (by simp)]
      refine ⟨fun hn y hy hsy => ?_, fun b hb => ?_⟩
      · rcases List.mem_append.1 hy with hy | hy
        · exact h.1 hn y hy hsy
        · rw [List.mem_singleton.1 hy]; exact hd
      · obtain ⟨h1, h2, k, h3, h4⟩ := h.2 b hb
        refine ⟨List.mem_append_left _ h1, h2, k, h3, fun y hy hsy j hj => ?_⟩
        rcases List.mem_append.1 hy with hy | hy
        · exact h4 y hy hsy j hj
        · rw [List.mem_singleton.1 hy, hd] at hj; cases hj
    | some ka =>
      have hin : a ∈ pre ++ [a] := by simp
      cases hst : st with
      | none =>
        rw [if_pos (by simp [hs])]
        refine ⟨fun hn => (by cases hn), fun b hb => ?_⟩
        cases hb
        refine ⟨hin, hs, ka, hd, fun y hy hsy j hj => ?_⟩
        rcases List.mem_append.1 hy with hy | hy
        · rw [h.1 hst y hy hsy] at hj; cases hj
        · rw [List.mem_singleton.1 hy, hd] at hj; cases hj; exact Nat.le_refl _
      | some b0 =>
        obtain ⟨h1, h2, k0, h3, h4⟩ := h.2 b0 hst
        by_cases hlt : ka < k0
        · rw [if_pos (by simp [hs, h3, hlt])]
          refine ⟨fun hn => (by cases hn), fun b hb => ?_⟩
          cases hb
          refine ⟨hin, hs, ka, hd, fun y hy hsy j hj => ?_⟩
          rcases List.mem_append.1 hy with hy | hy
          · have := h4 y hy hsy j hj; omega
          · rw [List.mem_singleton.1 hy, hd] at hj; cases hj; exact Nat.le_refl _
        · rw [if_neg (by simp [hs, h3, hlt])]
          refine ⟨fun hn => (by cases hn), fun b hb => ?_⟩
          cases hb
          refine ⟨List.mem_append_left _ h1, h2, k0, h3, fun y hy hsy j hj => ?_⟩
          rcases List.mem_append.1 hy with hy | hy
          · exact h4 y hy hsy j hj
          · rw [List.mem_singleton.1 hy, hd] at hj; cases hj; omega
theorem bestM_ok {at_ : Int} : (bestM E s d at_ = none → ∀ y ∈ E at_, s ≤ y → d y = none) ∧ ∀ b, bestM E s d at_ = some b → b ∈ E at_ ∧ s ≤ b ∧ ∃ k, d b = some k ∧ ∀ y ∈ E at_, s ≤ y → ∀ j, d y = some j → k ≤ j := by
  have := best_ok (s := s) (d := d) (l := E at_) (pre := []) (st := none) ⟨fun _ y hy => (by cases hy), fun b hb => (by cases hb)⟩
  simpa [bestM] using this
/-- The way back. -/
inductive PathR (E : Int → List Int) (s : Int) (d : Int → Option Nat) : Int → List Int → Option (List Int) → Prop
  | no {a : Int} {o : List Int} : bestM E s d a = none → PathR E s d a o none
  | fin {a : Int} {o : List Int} : bestM E s d a = some s → PathR E s d a o (some o)
  | go {a b : Int} {o : List Int} {r : Option (List Int)} : bestM E s d a = some b → b ≠ s → PathR E s d b (o ++ [b]) r → PathR E s d a o r
theorem PathR.one {a : Int} {o : List Int} {r r' : Option (List Int)} (h : PathR E s d a o r) (h' : PathR E s d a o r') : r = r' := by
  induction h with
  | no h1 =>
    cases h' with
    | no => rfl
    | fin h2 => rw [h1] at h2; cases h2
    | go h2 _ _ => rw [h1] at h2; cases h2
  | fin h1 =>
    cases h' with
    | no h2 => rw [h1] at h2; cases h2
    | fin h2 => rfl
    | go h2 h3 _ => rw [h1] at h2; cases h2; exact absurd rfl h3
  | go h1 h2 h3 ih =>
    cases h' with
    | no h4 => rw [h1] at h4; cases h4
    | fin h4 => rw [h1] at h4; cases h4; exact absurd rfl h2
    | go h4 h5 h6 => rw [h1] at h4; cases h4; exact ih h6
def ShortR (E : Int → List Int) (s : Int) (r : Option (List Int)) : Prop := ∃ d, IsDist E s d ∧ PathR E s d s [s] r
theorem ShortR.one {r r' : Option (List Int)} (h : ShortR E s r) (h' : ShortR E s r') : r = r' := by
  obtain ⟨d, h1, h2⟩ := h
  obtain ⟨d', h3, h4⟩ := h'
  cases h1.one h3
  exact h2.one h4
open Classical in
noncomputable def shortF (E : Int → List Int) (s : Int) : Option (List Int) := if h : ∃ r, ShortR E s r then Classical.choose h else none
theorem shortF_eq {r : Option (List Int)} (h : ShortR E s r) : shortF E s = r := by
  unfold shortF
  have hx : ∃ r, ShortR E s r := ⟨r, h⟩
  rw [dif_pos hx]
  exact (Classical.choose_spec hx).one h
/-- Of some circles the first one of the shortest. -/
noncomputable def anS (E : Int → List Int) (st : Option (List Int)) (x : Int) : Option (List Int) := match shortF E x with
  | none => st
  | some c => match st with
    | none => some c
    | some o => if c.length < o.length then some c else some o
noncomputable def anomF (E : Int → List Int) (ks : List Int) : Option (List Int) := ks.foldl (anS E) none
end
end Go.Proofs.YtibhpoikhkokiaaGreat.Hw

/- Histories: shortest (c64). -/
set_option linter.unusedVariables false
set_option linter.unusedSimpArgs false
set_option maxRecDepth 20000
namespace Go.Proofs.YtibhpoikhkokiaaGreat.Hw
open Go Go.Proofs
section
variable {H H' : Hp} {Q : Value → Hp → Prop} {m : Nat} {sl : Int → Option Addr × Nat} {E : Int → List Int} {s : Int} {U : List Int}
theorem MapF.lookD {b : Nat} {d : Int → Option Nat} {x : Int} {K : Value → Bool → Prop} (h : MapF H b (fun x => (d x).map natV)) (hk : K (.int .i64 (((d x).getD 0 : Nat) : Int)) (d x).isSome) : lookF H .i64 (some b) x (.int .i64 0) K := by
  refine h.look ?_
  cases hd : d x <;> rw [hd] at hk <;> exact hk
def distV (d : Int → Option Nat) : Int → Option Value := fun x => (d x).map natV
theorem c64 (GA : GraphAt H m sl E) (hs : s ∈ U) (hU : ∀ x y, y ∈ E x → x ∈ U) (hul : U.length < 100000000) (hel : ∀ x, (E x).length < 1000000000) (hq1 : ShortR E s none → ∀ H', Ext H H' → Q (.slice none 0 0) H')
    (hq2 : ∀ o, ShortR E s (some o) → ∀ b c H', Ext H H' → SlAt inC H' (some ⟨b, 0, none⟩) o.length o → o.length ≤ c → Q (.slice (some ⟨b, 0, none⟩) o.length c) H') : HCalls Tryz.prog 64 [.map (some m), .int .i64 s] H Q := by
  refine f64.ok _ _ ?_
  unfold f64
  refine MapF.new fun m1 H2 hm1 x2 o2 M1 => M1.put fun H3 M3 f3 => ?_
  have x3 : Ext H H3 := fun q o hq' => by
    rw [f3 q fun e => by rw [e, hm1] at hq'; cases hq']
    exact x2 q o hq'
  have M3 : MapF H3 m1 (distV fun z => if z = s then some 0 else none) := M3.congr fun z => by
    show _ = (if z = s then some 0 else none : Option Nat).map natV
    by_cases e : z = s
    · rw [if_pos e, if_pos e]; rfl
    · rw [if_neg e, if_neg e]; rfl
  obtain ⟨kv, hm, hkv0⟩ := GA.map
  have hkv : ∀ k, kvGet kv k = if (E k).isEmpty then none else some (.slice (sl k).1 (E k).length (sl k).2) := hkv0
  have hin : ∀ x y, y ∈ E x → x ∈ kv.map (·.1) := fun x y hy => by
    have hne : (E x).isEmpty = false := by
      cases he : (E x).isEmpty with
      | false => rfl
      | true => rw [List.isEmpty_iff.1 he] at hy; cases hy
    have h1 := hkv x
    rw [hne, if_neg (by decide)] at h1
    exact List.mem_map.2 ⟨_, (kvGet_mem hm.keys).1 h1, rfl⟩
  have hmm : m ≠ m1 := fun e => GA.map.live (e ▸ hm1)
  refine ⟨fun n st H' => ∃ chg d, st = (((chg : Bool), ()), ()) ∧ Ext H H' ∧ MapF H' m1 (distV d) ∧ Knows E s U d ∧ (chg = true → n = wgt U d + 1) ∧ (chg = false → n = 0 ∧ ∀ x y, s < x → y ∈ E x → Closed d x y),
    ⟨_, true, _, rfl, x3, M3, Knows.start hs, fun _ => rfl, fun h => by cases h⟩, ?_⟩
  rintro n st H5 ⟨chg, d, rfl, hx5, M5, K5, hc1, hc2⟩
  dsimp only
  cases chg with
  | true =>
    have hn := hc1 rfl
    refine cndT rfl (range_to (hm.keep (ext_at hx5 GA.map.live)) fun i7 H8 hi7 x8 hI8 f8 => ?_)
    have hi7m : i7 ≠ m := fun e => by have := GA.map.live; rw [← ext_at hx5 this] at this; exact this (e ▸ hi7)
    have hi71 : i7 ≠ m1 := fun e => M5.live (e ▸ hi7)
    have hHi : H i7 = none := hx5.none hi7
    refine ⟨fun n9 st H' => ∃ left chg9 d9, n9 = left.length ∧ st = (((chg9 : Bool), ()), ()) ∧ IterAt .i64 H' i7 m kv left ∧ Ext H H' ∧ MapF H' m1 (distV d9) ∧ Knows E s U d9 ∧ (chg9 = true → wgt U d9 < wgt U d) ∧ (chg9 = false → d9 = d ∧ ∀ x y, s < x → y ∈ E x → x ∉ left → Closed d x y),
      ⟨_, kv.map (·.1), false, d, rfl, rfl, hI8, hx5.trans x8, M5.keep (ext_at x8 M5.live), K5, (fun h => by cases h), fun _ => ⟨rfl, fun x y hsx hy hn => absurd (hin x y hy) hn⟩⟩, ?_⟩
    rintro n9 st H10 ⟨left, chg9, d9, rfl, rfl, hI, hx10, M10, K10, hg1, hg2⟩
    dsimp only
    refine jn_out ?_
    refine next_to hI hi7m (fun hl0 => cndF rfl ⟨rfl, ?_⟩) (fun k u H16 hku hkl hI16 hE f16 => ?_)
    · subst hl0
      cases chg9 with
      | true => exact ⟨wgt U d9 + 1, by have := hg1 rfl; omega, true, d9, rfl, hx10, M10, K10, fun _ => rfl, fun h => by cases h⟩
      | false =>
        obtain ⟨rfl, hcl⟩ := hg2 rfl
        exact ⟨0, by omega, false, d9, rfl, hx10, M10, K10, (fun h => by cases h), fun _ => ⟨rfl, fun x y hsx hy => hcl x y hsx hy (by simp)⟩⟩
    have hu := (kvGet_mem hm.keys).2 hku
    have hne : (E k).isEmpty = false := by
      cases he : (E k).isEmpty with
      | false => rfl
      | true => rw [hkv k, he] at hu; cases hu
    rw [hkv k, hne, if_neg (by decide)] at hu
    cases hu
    have hlt' : (left.filter fun y => decide (y ≠ k)).length < left.length := by
      have h1 := List.length_filter_le (fun y => decide (y ≠ k)) left
      by_cases e : (left.filter fun y => decide (y ≠ k)).length = left.length
      · have := List.length_filter_eq_length_iff.1 e k hkl
        simp at this
      · omega
    have x16 : Ext H H16 := fun q o hq' => (f16 q fun e => by rw [e, hHi] at hq'; cases hq').trans (hx10 q o hq')
    have M16 := M10.keep (f16 m1 hi71.symm)
    have hrow : SlAt inC H (sl k).1 (E k).length (E k) := (GA.row k hne).1
    refine ⟨k, rfl, _, _, _, rfl, cndT rfl (entry_to hE ⟨k, rfl, _, _, _, rfl, ?_⟩)⟩
    have hel' := hel k
    refine loop_to (E k).length (fun i st H' => ∃ chg' d', st = (((chg' : Bool), ((i : Int), ())), ()) ∧ (∀ q, q ≠ m1 → H' q = H16 q) ∧ MapF H' m1 (distV d') ∧ Knows E s U d' ∧ (chg' = true → wgt U d' < wgt U d) ∧ (chg' = false → d' = d ∧ (∀ x y, s < x → y ∈ E x → x ∉ left → Closed d x y) ∧ ∀ y ∈ (E k).take i, s < k → Closed d k y))
      ⟨chg9, d9, rfl, fun _ _ => rfl, M16, K10, hg1, fun h => ⟨(hg2 h).1, (hg2 h).2, fun y hy => by simp at hy⟩⟩ ?_
    rintro i st H25 next hi ⟨chg', d', rfl, f25, M25, K25, h25a, h25b⟩ hnext
    dsimp only
    have x25 : Ext H H25 := fun q o hq' => (f25 q fun e => by rw [e, hm1] at hq'; cases hq').trans (x16 q o hq')
    by_cases h : i < (E k).length
    rotate_left
    · obtain rfl : i = (E k).length := by omega
      refine cndF (decide_eq_false (by omega)) ⟨rfl, _, hlt', _, chg', d', rfl, rfl, hI16.ext (f25 i7 hi71) (f25 m hmm), x25, M25, K25, h25a, fun hc => ?_⟩
      obtain ⟨h1, h2, h3⟩ := h25b hc
      rw [List.take_length] at h3
      refine ⟨h1, fun x y hsx hy hnl => ?_⟩
      by_cases e : x = k
      · subst e; exact h3 y hy hsx
      · exact h2 x y hsx hy fun hl => hnl (List.mem_filter.2 ⟨hl, by simpa using e⟩)
    obtain ⟨y, hy⟩ := get_of h
    have ei : IntKind.i64.wrap ((i : Int) + 1) = ((i + 1 : Nat) : Int) := by rw [wrap_id (by omega) (by omega)]; rfl
    have hyE : y ∈ E k := List.mem_of_getElem? hy
    refine cndT (decide_eq_true (by omega)) (jn_intro (fun J => ∀ chg2 d2 H', (∀ q, q ≠ m1 → H' q = H16 q) → MapF H' m1 (distV d2) → Knows E s U d2 → (chg2 = true → wgt U d2 < wgt U d) → (chg2 = false → d2 = d ∧ (∀ x y, s < x → y ∈ E x → x ∉ left → Closed d x y) ∧ ∀ y ∈ (E k).take (i + 1), s < k → Closed d k y) → J chg2 H') (fun chg2 d2 H' a b c e f => ⟨rfl, hnext _ _ h ⟨chg2, d2, by rw [ei], a, b, c, e, f⟩⟩) fun J hJ => ⟨by omega, by omega, rd_in (hrow.ext x25) hy fun q o _ k1 => ⟨y, by simpa using k1, MapF.lookD M25 ⟨_, rfl, MapF.lookD M25 ⟨_, rfl, ?_⟩⟩⟩⟩)
    refine jn_intro (fun J2 => ∀ cb, cb = (decide (s < k) && ((d' y).isSome && (!(d' k).isSome || decide ((d' y).getD 0 + 1 < (d' k).getD 0)))) → J2 cb) (fun cb hcb => cndI (fun ht => ?_) fun hf => ?_) fun J2 h2 => ?_
    · rw [ht] at hcb
      have hcb := hcb.symm
      simp only [Bool.and_eq_true, decide_eq_true_eq, Bool.or_eq_true, Bool.not_eq_true'] at hcb
      obtain ⟨hsk, hys, hor⟩ := hcb
      cases hdy : d' y with
      | none => rw [hdy] at hys; cases hys
      | some ky =>
      have hkl := K25.lt hdy
      obtain ⟨K2, hw2⟩ := K25.step (x := k) (y := y) (k := ky) (hU k y hyE) hsk hyE hdy (fun k' hk' => by
        rw [hk', hdy] at hor
        simpa using hor)
      have ew : IntKind.i64.wrap ((((some ky).getD 0 : Nat) : Int) + 1) = ((ky + 1 : Nat) : Int) := by
        show IntKind.i64.wrap ((ky : Int) + 1) = _
        rw [wrap_id (by omega) (by omega)]; rfl
      rw [ew]
      refine M25.put fun H37 M37 f37 => hJ true _ H37 (fun q hq' => (f37 q hq').trans (f25 q hq')) (M37.congr (f' := distV (stepD d' k (ky + 1))) fun z => ?_) K2 (fun _ => ?_) (fun h => by cases h)
      · unfold distV stepD
        by_cases e : z = k
        · rw [if_pos e, if_pos e]; rfl
        · rw [if_neg e, if_neg e]
      · cases chg' with
        | true => have := h25a rfl; omega
        | false => obtain ⟨rfl, _⟩ := h25b rfl; exact hw2
    · refine hJ chg' d' H25 f25 M25 K25 h25a fun hc => ?_
      obtain ⟨rfl, h3, h4⟩ := h25b hc
      refine ⟨rfl, h3, fun z hz hsk => ?_⟩
      rw [take_snoc hy] at hz
      rcases List.mem_append.1 hz with hz | hz
      · exact h4 z hz hsk
      · rw [List.mem_singleton.1 hz]
        intro kk hkk
        rw [hf] at hcb
        cases hdk : d' k with
        | none => rw [hkk, hdk] at hcb; simp [hsk] at hcb
        | some k' =>
          refine ⟨k', rfl, ?_⟩
          rw [hkk, hdk] at hcb
          simp [hsk] at hcb
          omega
    · refine cndI (fun h1 => cndI (fun hb => cndI (fun hn => h2 _ ?_) fun hn => h2 _ ?_) fun hb => h2 _ ?_) fun h1 => h2 _ ?_
      · have h1 : s < k := of_decide_eq_true h1
        rw [hb, show (d' k).isSome = false by simpa using hn]; simp [h1]
      · have h1 : s < k := of_decide_eq_true h1
        have hn' : (d' k).isSome = true := by simpa using hn
        cases hdy : d' y with
        | none => rw [hdy] at hb; cases hb
        | some ky =>
        have hkl := K25.lt hdy
        cases hdk : d' k with
        | none => rw [hdk] at hn'; cases hn'
        | some k' =>
        show decide (IntKind.i64.wrap ((ky : Int) + 1) < (k' : Int)) = _
        rw [wrap_id (by omega) (by omega)]
        simp only [h1, decide_true, Option.isSome_some, Bool.true_and, Bool.not_true, Bool.false_or, Option.getD_some]
        rw [Bool.eq_iff_iff, decide_eq_true_eq, decide_eq_true_eq]; omega
      · rw [hb]; simp
      · have h1 : ¬ s < k := of_decide_eq_false h1
        simp [h1]
  | false =>
    obtain ⟨_, hcl⟩ := hc2 rfl
    have hD := K5.done hcl
    refine cndF rfl fun g41 hg41 => ?_
    have x41 : Ext H5 (upd g41 (Obj.cells [Value.int .i64 s].toArray 3 (0, 0)) H5) := Ext.new hg41
    have R41 : Row H5 (upd g41 (Obj.cells [Value.int .i64 s].toArray 3 (0, 0)) H5) (some ⟨g41, 0, none⟩) [s].length 1 1 ([s].flatMap inC) := ⟨rfl, by simp, .inr ⟨g41, [Value.int .i64 s], 3, rfl, upd_at, by simp, rfl, hg41⟩⟩
    refine ⟨fun n st H' => ∃ a out A c, st = ((((A, out.length, c), ((a : Int), ()))), ()) ∧ Ext H5 H' ∧ Row H5 H' A out.length c 1 (out.flatMap inC) ∧ (a = s ∧ n = U.length + 1 ∨ s < a ∧ d a = some n) ∧ (∀ r, PathR E s d a out r → PathR E s d s [s] r) ∧ out.length + n ≤ U.length + 2 ∧ out ≠ [],
      ⟨_, s, [s], _, 1, rfl, x41, R41, .inl ⟨rfl, rfl⟩, fun r h => h, by simp; omega, by simp⟩, ?_⟩
    rintro n st H44 ⟨a, out, A, c, rfl, hx44, R44, han, hpath, hbnd, hne⟩
    dsimp only
    have GA44 := (GA.ext hx5).ext hx44
    have M44 := M5.keep (ext_at hx44 M5.live)
    refine GA44.look fun A48 n48 c48 b48 hA48 _ => ⟨A48, n48, c48, rfl, ?_⟩
    have hel' := hel a
    obtain rfl := hA48.len
    have est : ∀ i, i ≤ (E a).length → True := fun _ _ => trivial
    refine loop_to (E a).length (fun i st H' => H' = H44 ∧ st = ((((((E a).take i).foldl (bestS s d) none).getD 0), (((((E a).take i).foldl (bestS s d) none).isSome), ((i : Int), ()))), ())) ⟨rfl, rfl⟩ ?_
    rintro i st H50 next hi ⟨rfl, rfl⟩ hnext
    dsimp only
    by_cases h : i < (E a).length
    · obtain ⟨y, hy⟩ := get_of h
      have ei : IntKind.i64.wrap ((i : Int) + 1) = ((i + 1 : Nat) : Int) := by rw [wrap_id (by omega) (by omega)]; rfl
      have etk : ((E a).take (i + 1)).foldl (bestS s d) none = bestS s d (((E a).take i).foldl (bestS s d) none) y := by rw [take_snoc hy, List.foldl_append]; rfl
      generalize hst : ((E a).take i).foldl (bestS s d) none = st0 at hnext etk ⊢
      have hb0 : ∀ b, st0 = some b → (d b).isSome = true := fun b hb => by
        have := (best_ok (s := s) (d := d) (l := (E a).take i) (pre := []) (st := none) ⟨fun _ y hy => (by cases hy), fun b hb => (by cases hb)⟩).2 b (hst.trans hb)
        obtain ⟨_, _, k, hk, _⟩ := this
        rw [hk]; rfl
      refine cndT (decide_eq_true (by omega)) (jn_intro (fun J => J ((bestS s d st0 y).getD 0) ((bestS s d st0 y).isSome)) ⟨rfl, hnext _ _ h ⟨rfl, by rw [ei, etk]⟩⟩ fun J hJ => ⟨by omega, by omega, rd_in hA48 hy fun q o _ k1 => ⟨y, by simpa using k1, MapF.lookD M44 ⟨_, rfl, ?_⟩⟩⟩)
      unfold bestS at hJ
      refine jn_intro (fun J2 => ∀ cb, cb = bestC s d st0 y → J2 cb) (fun cb hcb => cndI (fun ht => ?_) fun hf => ?_) fun J2 h2 => ?_
      · rw [← hcb, ht, if_pos rfl] at hJ; exact hJ
      · rw [← hcb, hf, if_neg (by decide)] at hJ; exact hJ
      · refine cndI (fun h1 => cndI (fun hb => cndI (fun hn => h2 _ ?_) fun hn => MapF.lookD M44 ⟨_, rfl, h2 _ ?_⟩) fun hb => h2 _ ?_) fun h1 => h2 _ ?_ <;> unfold bestC
        · have h1 : s ≤ y := of_decide_eq_true h1
          cases st0 with
          | none => rw [hb]; simp [h1]
          | some b => cases hn
        · have h1 : s ≤ y := of_decide_eq_true h1
          cases st0 with
          | none => cases hn
          | some b =>
            rw [hb]
            simp only [h1, decide_true, Bool.true_and, Option.getD_some]
            rw [Bool.eq_iff_iff, decide_eq_true_eq, decide_eq_true_eq]; omega
        · rw [hb]; simp
        · have h1 : ¬ s ≤ y := of_decide_eq_false h1
          simp [h1]
    · obtain rfl : i = (E a).length := by omega
      rw [List.take_length]
      refine cndF (decide_eq_false (by omega)) ?_
      have hbm : (E a).foldl (bestS s d) none = bestM E s d a := rfl
      rw [hbm]
      cases hb : bestM E s d a with
      | none => exact cndT rfl (hq1 ⟨d, hD, hpath none (.no hb)⟩ H50 (hx5.trans hx44))
      | some b =>
        refine cndF rfl ?_
        show cnd (b == s) _ _
        have hln : 0 < out.length := List.length_pos_iff.2 hne
        refine cndI (fun he => ?_) fun he => ?_
        · have he : b = s := by simpa using he
          subst he
          obtain ⟨r1, r2, ⟨r3, r4⟩ | ⟨bb, cs, ty, rfl, r3, r4, r5, r6⟩⟩ := R44
          · omega
          · exact hq2 out ⟨d, hD, hpath _ (.fin hb)⟩ bb c H50 (hx5.trans hx44) ⟨rfl, Row.cells ⟨r1, r2, .inr ⟨bb, cs, ty, rfl, r3, r4, r5, r6⟩⟩, by unfold huge; omega⟩ r2
        · have he : b ≠ s := by simpa using he
          obtain ⟨hbE, hsb, kb, hkb, hmin⟩ := bestM_ok.2 b hb
          have hsb' : s < b := by omega
          have hkbl := K5.lt hkb
          have hdec : kb < n := by
            rcases han with ⟨rfl, rfl⟩ | ⟨hsa, hda⟩
            · omega
            · have hw := ((hD a n).1 hda).1
              cases hw with
              | zero => omega
              | @succ k x y h1 h2 h3 =>
                obtain ⟨k3, h4, h5⟩ := hD.ex h3
                have := hmin y h2 h3.ge k3 h4
                omega
          intro g65 hg65
          refine Row.push1 (w := b) (f := inC) (k := 1) (ty := 3) (fun _ => rfl) (fun x v hv => by obtain rfl := List.mem_singleton.1 hv; rfl) (by omega) R44 hx44 (by unfold big; omega) hg65 fun A2 c2 H68 R2 x68 _ _ => ⟨rfl, kb, hdec, b, out ++ [b], A2, c2, rfl, x68, R2, .inr ⟨hsb', hkb⟩, fun r hr => hpath r (.go hb he hr), ?_, by simp⟩
          rw [List.length_append, List.length_singleton]; omega
end
end Go.Proofs.YtibhpoikhkokiaaGreat.Hw

/- Histories: Anomaly and Only. -/
set_option linter.unusedVariables false
set_option linter.unusedSimpArgs false
set_option maxRecDepth 20000
namespace Go.Proofs.YtibhpoikhkokiaaGreat.Hw
open Go Go.Proofs
def AnomQ (H : Hp) (Q : Value → Hp → Prop) (l : List Ev) : Prop :=
  (validM l = false → ∀ H', Ext H H' → Q (.tuple #[.slice none 0 0, .int .i64 2]) H') ∧
  (validM l = true → ∀ rs E ks, ArcsOf l rs → GraphOf rs wA E → Strict ks → (∀ x, x ∈ ks ↔ (E x).isEmpty = false) →
    (anomF E ks = none → ∀ H', Ext H H' → Q (.tuple #[.slice none 0 0, .int .i64 4]) H') ∧
    ∀ o, anomF E ks = some o → ∀ b c H', Ext H H' → SlAt inC H' (some ⟨b, 0, none⟩) o.length o → o.length ≤ c → Q (.tuple #[.slice (some ⟨b, 0, none⟩) o.length c, .int .i64 0]) H')
theorem mem_arc1 {l : List Ev} {a b k i : Int} {x : Arc} : x ∈ arc1 l a b k i ↔ x = ⟨a, b, k, i⟩ ∧ a ≠ b ∧ comB l a = true ∧ comB l b = true := by
  unfold arc1
  cases ha : comB l a <;> cases hb : comB l b <;> by_cases e : a = b <;> simp [ha, hb, e]
/-- An arc, word by word. -/
def ArcIs (l : List Ev) (x : Arc) : Prop := x.a ≠ x.b ∧ comB l x.a = true ∧ comB l x.b = true ∧
  ((x.kind = 1 ∧ ∃ j : Nat, (versM l x.item)[j]? = some x.a ∧ (versM l x.item)[j + 1]? = some x.b) ∨
   (x.kind = 2 ∧ ∃ (i : Nat) (e : Ev), l[i]? = some e ∧ e.op = 2 ∧ natOr (lastW l e.frm e.item) < i ∧ x.a = e.frm ∧ x.b = e.txn ∧ x.item = e.item) ∨
   (x.kind = 3 ∧ ∃ (i : Nat) (e : Ev), l[i]? = some e ∧ e.op = 2 ∧ (e.frm = 0 ∨ comB l e.frm = true) ∧ x.a = e.txn ∧ x.b = nextM l e.item e.frm ∧ x.item = e.item))
theorem arc_iff {l : List Ev} {x : Arc} : IsArc l x ↔ ArcIs l x := by
  unfold IsArc ArcIs
  constructor
  · rintro (⟨k, hk⟩ | hr)
    · unfold wwTo at hk
      obtain ⟨j, hj, hx⟩ := List.mem_flatMap.1 hk
      unfold wwAt at hx
      split at hx
      · rename_i a b ha hb
        obtain ⟨rfl, h1, h2, h3⟩ := mem_arc1.1 hx
        exact ⟨h1, h2, h3, .inl ⟨rfl, j, ha, hb⟩⟩
      · cases hx
    · unfold rdTo at hr
      obtain ⟨i, hi, hx⟩ := List.mem_flatMap.1 hr
      unfold rdOf at hx
      cases he : l[i]? with
      | none => rw [he] at hx; cases hx
      | some e =>
        rw [he] at hx
        by_cases ho : e.op = 2
        · simp only [ho, beq_self_eq_true, if_true] at hx
          rcases List.mem_append.1 hx with hx | hx
          · split at hx
            · rename_i hlt
              obtain ⟨rfl, h1, h2, h3⟩ := mem_arc1.1 hx
              exact ⟨h1, h2, h3, .inr (.inl ⟨rfl, i, e, he, ho, hlt, rfl, rfl, rfl⟩)⟩
            · cases hx
          · split at hx
            · rename_i hc
              obtain ⟨rfl, h1, h2, h3⟩ := mem_arc1.1 hx
              refine ⟨h1, h2, h3, .inr (.inr ⟨rfl, i, e, he, ho, ?_, rfl, rfl, rfl⟩)⟩
              rw [Bool.or_eq_true] at hc
              exact hc.imp (fun h => by simpa using h) id
            · cases hx
        · simp only [show (e.op == 2) = false by simpa using ho] at hx
          cases hx
  · rintro ⟨h1, h2, h3, ⟨hk, j, ha, hb⟩ | ⟨hk, i, e, he, ho, hlt, ha, hb, hi⟩ | ⟨hk, i, e, he, ho, hc, ha, hb, hi⟩⟩
    · refine .inl ⟨x.item, ?_⟩
      unfold wwTo
      have hl := (List.getElem?_eq_some_iff.1 hb).1
      refine List.mem_flatMap.2 ⟨j, List.mem_range.2 (by omega), ?_⟩
      unfold wwAt
      rw [ha, hb]
      refine mem_arc1.2 ⟨?_, h1, h2, h3⟩
      cases x; simp only at hk; subst hk; rfl
    · refine .inr ?_
      unfold rdTo
      refine List.mem_flatMap.2 ⟨i, List.mem_range.2 (List.getElem?_eq_some_iff.1 he).1, ?_⟩
      unfold rdOf
      simp only [he, ho, beq_self_eq_true, if_true]
      refine List.mem_append_left _ ?_
      rw [if_pos hlt]
      refine mem_arc1.2 ⟨?_, by rw [← ha, ← hb]; exact h1, by rw [← ha]; exact h2, by rw [← hb]; exact h3⟩
      cases x; simp only at hk ha hb hi; subst hk ha hb hi; rfl
    · refine .inr ?_
      unfold rdTo
      refine List.mem_flatMap.2 ⟨i, List.mem_range.2 (List.getElem?_eq_some_iff.1 he).1, ?_⟩
      unfold rdOf
      simp only [he, ho, beq_self_eq_true, if_true]
      refine List.mem_append_right _ ?_
      rw [if_pos (by rcases hc with hc | hc <;> simp [hc])]
      refine mem_arc1.2 ⟨?_, by rw [← ha, ← hb]; exact h1, by rw [← ha]; exact h2, by rw [← hb]; exact h3⟩
      cases x; simp only at hk ha hb hi; subst hk ha hb hi; rfl
/-- A circle, if there is one. -/
def AnAt (H : Hp) (A : Option Addr) (n c : Nat) : Option (List Int) → Prop
  | none => A = none ∧ n = 0 ∧ c = 0
  | some o => ∃ b, A = some ⟨b, 0, none⟩ ∧ n = o.length ∧ SlAt inC H (some ⟨b, 0, none⟩) o.length o ∧ o.length ≤ c
theorem AnAt.ext {H H' : Hp} {A : Option Addr} {n c : Nat} {st : Option (List Int)} (h : AnAt H A n c st) (hx : Ext H H') : AnAt H' A n c st := by
  cases st with
  | none => exact h
  | some o =>
    obtain ⟨b, h1, h2, h3, h4⟩ := h
    exact ⟨b, h1, h2, h3.ext hx, h4⟩
section
variable {H H' : Hp} {Q : Value → Hp → Prop} {A : Option Addr} {n cp : Nat} {l : List Ev}
theorem c23 (hA : SlAt evC H A n l) (hcp : n ≤ cp) (hq : AnomQ H Q l) : HCalls Tryz.prog 23 [.slice A n cp] H Q := by
  refine f23.ok _ _ _ ?_
  unfold f23
  obtain ⟨q1, q2⟩ := hq
  refine c14 hA fun H2 x2 => ⟨_, rfl, ?_⟩
  cases hv : validM l with
  | false => exact cndT rfl (q1 hv H2 x2)
  | true =>
  obtain ⟨hok, hlen⟩ := valid_ok hv
  refine cndF rfl (c38 (hA.ext x2) hcp hok hlen fun g c b v w sl H5 x5 B => ⟨_, rfl, c42 B hlen fun rs A9 c9 H8 ha hl x8 R9 => ⟨_, _, _, rfl, ?_⟩⟩)
  have hsl : SlAt arC H8 A9 rs.length rs := ⟨rfl, R9.cells, by unfold huge; omega⟩
  refine c45 (want := wA) hsl (fnOk 61 rfl) (fun k H' Q' hQ' => ?_) (by omega) fun m sl2 E H11 G GA x11 _ => ⟨_, rfl, c63 fun g14 H14 hg14 hH14 => ⟨_, _, _, rfl, ?_⟩⟩
  · refine f61.ok _ ?_
    unfold f61; exact hQ'
  obtain ⟨kv, hm, hkv0⟩ := GA.map
  have hkv : ∀ k, kvGet kv k = if (E k).isEmpty then none else some (.slice (sl2 k).1 (E k).length (sl2 k).2) := hkv0
  have hkeys : ∀ k, k ∈ kv.map (·.1) ↔ (E k).isEmpty = false := fun k => by
    have h1 := hkv k
    constructor
    · intro hk
      obtain ⟨p, hp, rfl⟩ := List.mem_map.1 hk
      rw [(kvGet_mem hm.keys).2 hp] at h1
      cases he : (E p.1).isEmpty with
      | false => rfl
      | true => rw [he] at h1; cases h1
    · intro he
      rw [he, if_neg (by decide)] at h1
      exact List.mem_map.2 ⟨_, (kvGet_mem hm.keys).1 h1, rfl⟩
  have hea : ∀ x y, y ∈ E x → ∃ a ∈ rs, a.a = x := fun x y hy => by
    obtain ⟨a, h1, h2, _⟩ := ((G x).2 y).1 hy
    exact ⟨a, h1, h2⟩
  have hkin : ∀ x ∈ kv.map (·.1), comB l x = true ∧ x ∈ rs.map (·.a) := fun x hx => by
    have he := (hkeys x).1 hx
    cases hE : E x with
    | nil => rw [hE] at he; cases he
    | cons y r =>
      obtain ⟨a, h1, rfl⟩ := hea x y (by rw [hE]; exact List.mem_cons_self)
      exact ⟨(arc_iff.1 ((ha.2 a).1 h1)).2.1, List.mem_map_of_mem h1⟩
  have x014 : Ext H11 H14 := by rw [hH14]; exact Ext.new hg14
  have hkvl : kv.length ≤ 2000 := by
    have h1 := nodup_len (m := comL l) hm.keys fun x hx => comL_mem.2 (hkin x hx).1
    have := comL_len (l := l)
    rw [List.length_map] at h1
    omega
  refine c62a (m := m) (ty := 69) (kv := kv) (by rw [hH14]; exact upd_at) (hm.keep (ext_at x014 GA.map.live)) (fun x hx => ?_) (by omega) fun H17 A18 c18 R18 x17 => ⟨_, _, _, rfl, ?_⟩
  · have := com_in hok (hkin x hx).1
    omega
  have hks : Strict (sortM (kv.map (·.1))) := strict_sort hm.keys
  have hkm : ∀ x, x ∈ sortM (kv.map (·.1)) ↔ (E x).isEmpty = false := fun x => sortM_mem.trans (hkeys x)
  have hksl : (sortM (kv.map (·.1))).length = kv.length := by unfold sortM; rw [List.length_mergeSort, List.length_map]
  have hkm2 : ∀ x ∈ sortM (kv.map (·.1)), x ∈ kv.map (·.1) := fun x hx => sortM_mem.1 hx
  generalize hks0 : sortM (kv.map (·.1)) = ks at R18 hks hkm hksl hkm2
  obtain ⟨q3, q4⟩ := q2 hv rs E ks ha G hks hkm
  have hx17 : Ext H H17 := ((((x2.trans x5).trans x8).trans x11).trans x014).trans x17
  have hsl18 : SlAt inC H17 A18 ks.length ks := ⟨rfl, R18.cells, by unfold huge; omega⟩
  rw [← hksl]
  refine loop_to ks.length (fun i st H' => ∃ A n c, st = (((A, n, c), ((i : Int), ())), ()) ∧ Ext H17 H' ∧ AnAt H' A n c ((ks.take i).foldl (anS E) none)) ⟨none, 0, 0, rfl, Ext.refl _, rfl, rfl, rfl⟩ ?_
  rintro i st H20 next hi ⟨A1, n1, c1, rfl, hx20, hAn⟩ hnext
  dsimp only
  by_cases h : i < ks.length
  · obtain ⟨x, hx⟩ := get_of h
    have ei : IntKind.i64.wrap ((i : Int) + 1) = ((i + 1 : Nat) : Int) := by rw [wrap_id (by omega) (by omega)]; rfl
    have etk : (ks.take (i + 1)).foldl (anS E) none = anS E ((ks.take i).foldl (anS E) none) x := by rw [take_snoc hx, List.foldl_append]; rfl
    generalize hst : (ks.take i).foldl (anS E) none = st0 at hAn etk
    have hxr := (hkin x (hkm2 x (List.mem_of_getElem? hx))).2
    refine cndT (decide_eq_true (by omega)) (jn_intro (fun J => ∀ A2 n2 c2 H', Ext H20 H' → AnAt H' A2 n2 c2 (anS E st0 x) → J A2 n2 c2 H') (fun A2 n2 c2 H' a b => ⟨rfl, hnext _ _ h ⟨A2, n2, c2, by rw [ei], hx20.trans a, by rw [etk]; exact b⟩⟩) fun J hJ => ⟨by omega, by omega, rd_in (hsl18.ext hx20) hx fun q o _ k1 => ⟨x, by simpa using k1, ?_⟩⟩)
    refine c64 (U := rs.map (·.a)) ((GA.ext (x014.trans x17)).ext hx20) hxr (fun a y hy => ?_) (by rw [List.length_map]; omega) (fun z => Nat.lt_of_le_of_lt (graph_len G z) (by omega)) (fun hs H25 x25 => ⟨_, _, _, rfl, ?_⟩) fun o hs b25 c25 H25 x25 hO hOc => ⟨_, _, _, rfl, ?_⟩
    · obtain ⟨z, h1, rfl⟩ := hea a y hy
      exact List.mem_map_of_mem h1
    · have he : anS E st0 x = st0 := by unfold anS; rw [shortF_eq hs]
      refine jn_intro (fun J2 => J2 false) ?_ fun J2 h2 => cndF rfl h2
      exact cndF rfl (hJ _ _ _ H25 x25 (by rw [he]; exact hAn.ext x25))
    · refine jn_intro (fun J2 => ∀ bb, bb = (match st0 with | none => true | some o0 => decide (o.length < o0.length)) → J2 bb) (fun bb hbb => cndI (fun ht => ?_) fun hf => ?_) fun J2 h2 => ?_
      · have he : anS E st0 x = some o := by
          unfold anS
          rw [shortF_eq hs]
          cases st0 with
          | none => rfl
          | some o0 =>
            have : o.length < o0.length := by simpa using (hbb.symm.trans ht)
            show (if o.length < o0.length then some o else some o0) = some o
            rw [if_pos this]
        exact hJ _ _ _ H25 x25 (by rw [he]; exact ⟨b25, rfl, rfl, hO, hOc⟩)
      · have he : anS E st0 x = st0 := by
          unfold anS
          rw [shortF_eq hs]
          cases st0 with
          | none => cases hbb.symm.trans hf
          | some o0 =>
            have : ¬ o.length < o0.length := by simpa using (hbb.symm.trans hf)
            show (if o.length < o0.length then some o else some o0) = some o0
            rw [if_neg this]
        exact hJ _ _ _ H25 x25 (by rw [he]; exact hAn.ext x25)
      · refine cndT rfl (cndI (fun hn => h2 _ ?_) fun hn => h2 _ ?_)
        · cases st0 with
          | none => rfl
          | some o0 =>
            obtain ⟨b, rfl, _⟩ := hAn
            cases hn
        · cases st0 with
          | none =>
            obtain ⟨rfl, _⟩ := hAn
            cases hn
          | some o0 =>
            obtain ⟨b, _, rfl, _⟩ := hAn
            rw [Bool.eq_iff_iff, decide_eq_true_eq, decide_eq_true_eq]; omega
  · obtain rfl : i = ks.length := by omega
    rw [List.take_length] at hAn
    have hfold : ks.foldl (anS E) none = anomF E ks := rfl
    rw [hfold] at hAn
    refine cndF (decide_eq_false (by omega)) ?_
    cases ho : anomF E ks with
    | none =>
      rw [ho] at hAn
      obtain ⟨rfl, rfl, rfl⟩ := hAn
      exact cndT rfl (q3 ho H20 (hx17.trans hx20))
    | some o =>
      rw [ho] at hAn
      obtain ⟨b, rfl, rfl, h1, h2⟩ := hAn
      exact cndF rfl (q4 o ho b c1 H20 (hx17.trans hx20) h1 h2)
/-! ### Only -/
theorem evC_len (x : Ev) : (evC x).length = 5 := rfl
theorem evC_one (x : Ev) : ∀ v ∈ evC x, v.oneCell' = true := fun v hv => by
  unfold evC at hv
  simp only [List.mem_cons, List.not_mem_nil, or_false] at hv
  rcases hv with rfl | rfl | rfl | rfl | rfl <;> rfl
def onlyS (T : List Int) (x : Ev) : List Ev := if T.any (fun y => x.txn == y) then [⟨x.op, x.txn, x.item, if (x.frm != 0) && !T.any (fun y => x.frm == y) then 0 else x.frm, x.stmt⟩] else []
def onlyM (l : List Ev) (T : List Int) : List Ev := l.flatMap (onlyS T)
def OnlyQ (H : Hp) (Q : Value → Hp → Prop) (l : List Ev) (T : List Int) : Prop :=
  (validM l = false → ∀ H', Ext H H' → Q (.tuple #[.slice none 0 0, .int .i64 2]) H') ∧
  (validM l = true → ∀ A c H', Ext H H' → SlAt evC H' A (onlyM l T).length (onlyM l T) → (onlyM l T).length ≤ c → Q (.tuple #[.slice A (onlyM l T).length c, .int .i64 0]) H')
theorem onlyS_len {T : List Int} {x : Ev} : (onlyS T x).length ≤ 1 := by unfold onlyS; split <;> simp
theorem onlyM_len {T : List Int} : ∀ {l : List Ev}, (onlyM l T).length ≤ l.length
  | [] => Nat.le_refl _
  | x :: r => by
    have h1 := onlyS_len (T := T) (x := x)
    have h2 := onlyM_len (T := T) (l := r)
    unfold onlyM at h2 ⊢
    rw [List.flatMap_cons, List.length_append, List.length_cons]; omega
theorem c31 {S : Option Addr} {ns cs : Nat} {T : List Int} (hA : SlAt evC H A n l) (hcp : n ≤ cp) (hS : SlAt inC H S ns T) (hq : OnlyQ H Q l T) : HCalls Tryz.prog 31 [.slice A n cp, .slice S ns cs] H Q := by
  refine f31.ok _ _ _ _ _ _ ?_
  unfold f31
  obtain ⟨q1, q2⟩ := hq
  refine c14 hA fun H2 x2 => ⟨_, rfl, ?_⟩
  cases hv : validM l with
  | false => exact cndT rfl (q1 hv H2 x2)
  | true =>
  obtain ⟨hok, hlen⟩ := valid_ok hv
  obtain rfl := hA.len
  refine cndF rfl (loop_to l.length (fun i st H' => ∃ A1 c1, st = (((A1, (onlyM (l.take i) T).length, c1), ((i : Int), ())), ()) ∧ Ext H2 H' ∧ Row H2 H' A1 (onlyM (l.take i) T).length c1 5 ((onlyM (l.take i) T).flatMap evC)) ⟨none, 0, rfl, Ext.refl _, Row.nil⟩ ?_)
  rintro i st H5 next hi ⟨A1, c1, rfl, hx5, R⟩ hnext
  dsimp only
  by_cases h : i < l.length
  · obtain ⟨x, hx⟩ := get_of h
    have ei : IntKind.i64.wrap ((i : Int) + 1) = ((i + 1 : Nat) : Int) := by rw [wrap_id (by omega) (by omega)]; rfl
    have etk : onlyM (l.take (i + 1)) T = onlyM (l.take i) T ++ onlyS T x := by unfold onlyM; rw [take_snoc hx, List.flatMap_append]; simp
    have hol : (onlyM (l.take i) T).length ≤ i := by
      have := onlyM_len (T := T) (l := l.take i)
      rw [List.length_take] at this; omega
    refine cndT (decide_eq_true (by omega)) (jn_intro (fun J => ∀ A2 c2 H', Ext H2 H' → Row H2 H' A2 (onlyM (l.take (i + 1)) T).length c2 5 ((onlyM (l.take (i + 1)) T).flatMap evC) → J A2 (onlyM (l.take (i + 1)) T).length c2 H') (fun A2 c2 H' a b => ⟨rfl, hnext _ _ h ⟨A2, c2, by rw [ei], a, b⟩⟩) fun J hJ => ⟨by omega, by omega, rd_ev (hA.ext (x2.trans hx5)) hx fun q o _ k1 k2 k3 k4 k5 => ⟨x.op, by simpa using k1, x.txn, by simpa using k2, x.item, by simpa using k3, x.frm, by simpa using k4, x.stmt, by simpa using k5, ?_⟩⟩)
    rw [etk] at hJ
    refine c40 ((hS.ext x2).ext hx5) ⟨_, rfl, cndI (fun hn => ?_) fun hn => ?_⟩
    · have hn : (T.any fun y => x.txn == y) = false := Bool.not_eq_true' _ ▸ hn
      have he : onlyS T x = [] := by unfold onlyS; rw [if_neg (by rw [hn]; decide)]
      rw [he, List.append_nil] at hJ
      exact hJ A1 c1 H5 hx5 R
    · have hn : (T.any fun y => x.txn == y) = true := not_f (by rw [← hn])
      refine jn_intro (fun J2 => ∀ fr, fr = (if (x.frm != 0) && !T.any (fun y => x.frm == y) then 0 else x.frm) → J2 fr H5) (fun fr hfr g25 hg25 => ?_) fun J2 h2 => jn_intro (fun J3 => ∀ bb, bb = ((x.frm != 0) && !T.any (fun y => x.frm == y)) → J3 bb H5) (fun bb hbb => cndI (fun ht => h2 0 (by rw [← hbb, ht]; rfl)) fun hf => h2 x.frm (by rw [← hbb, hf]; rfl)) fun J3 h3 => cndI (fun h0 => c40 ((hS.ext x2).ext hx5) ⟨_, rfl, h3 _ (by rw [h0]; rfl)⟩) fun h0 => h3 _ (by rw [h0]; rfl)
      have he : onlyS T x = [⟨x.op, x.txn, x.item, fr, x.stmt⟩] := by unfold onlyS; rw [if_pos hn, hfr]
      rw [he] at hJ
      exact Row.push1 (w := (⟨x.op, x.txn, x.item, fr, x.stmt⟩ : Ev)) (f := evC) (k := 5) (ty := 35) evC_len evC_one (by omega) R hx5 (by unfold big; omega) hg25 fun A2 c2 H28 R2 x28 _ _ => hJ A2 c2 H28 x28 R2
  · obtain rfl : i = l.length := by omega
    rw [List.take_length] at R ⊢
    have := onlyM_len (T := T) (l := l)
    exact cndF (decide_eq_false (by omega)) (q2 hv A1 c1 H5 (x2.trans hx5) ⟨rfl, R.cells, by unfold huge; omega⟩ R.2.1)
end
end Go.Proofs.YtibhpoikhkokiaaGreat.Hw

/- Histories: what the fixed calls give. -/
set_option linter.unusedVariables false
set_option linter.unusedSimpArgs false
set_option maxRecDepth 20000
namespace Go.Proofs.YtibhpoikhkokiaaGreat.Hw
open Go Go.Proofs
def lostL : List Ev := [⟨1, 1, 0, 0, 0⟩, ⟨1, 2, 0, 0, 0⟩, ⟨2, 1, 1, 0, 1⟩, ⟨2, 2, 1, 0, 1⟩, ⟨3, 1, 1, 0, 2⟩, ⟨4, 1, 0, 0, 0⟩, ⟨3, 2, 1, 0, 2⟩, ⟨4, 2, 0, 0, 0⟩]
def oneL : List Ev := [⟨1, 2, 0, 0, 0⟩, ⟨2, 2, 1, 0, 1⟩, ⟨3, 2, 1, 0, 1⟩, ⟨4, 2, 0, 0, 0⟩, ⟨1, 1, 0, 0, 0⟩, ⟨2, 1, 1, 2, 1⟩, ⟨4, 1, 0, 0, 0⟩]
def badL : List Ev := [⟨1, 0, 0, 0, 0⟩]
theorem lost_valid : validM lostL = true := by kernel_rfl
theorem one_valid : validM oneL = true := by kernel_rfl
theorem bad_valid : validM badL = false := by kernel_rfl
theorem lost_ab : abTo lostL 8 = false := by kernel_rfl
theorem lost_bt : btTo lostL 8 = false := by kernel_rfl
theorem one_ab : abTo oneL 7 = false := by kernel_rfl
theorem one_bt : btTo oneL 7 = false := by kernel_rfl
theorem lost_serial : fitsM lostL all200 = false := by kernel_rfl
theorem lost_com : fitsM lostL [] = true := by kernel_rfl
theorem one_fits : fitsM oneL [1, 2] = true := by kernel_rfl
/-- All arcs, in some order. -/
def arcL (l : List Ev) : List Arc := (l.map (·.item)).flatMap (fun k => wwTo l k ((versM l k).length - 1)) ++ rdTo l l.length
theorem mem_arcL {l : List Ev} {x : Arc} : IsArc l x ↔ x ∈ arcL l := by
  unfold IsArc arcL
  rw [List.mem_append]
  refine or_congr_left ?_
  rw [List.mem_flatMap]
  constructor
  · rintro ⟨k, hk⟩
    refine ⟨k, vers_item (?_ : (versM l k).isEmpty = false), hk⟩
    cases he : (versM l k).isEmpty with
    | false => rfl
    | true => rw [List.isEmpty_iff.1 he] at hk; simp [wwTo] at hk
  · rintro ⟨k, _, hk⟩
    exact ⟨k, hk⟩
theorem arcs_by {l : List Ev} {rs : List Arc} (h : rs.Pairwise ltA) (h1 : ((arcL l).all (fun x => rs.contains x) && rs.all (fun x => (arcL l).contains x)) = true) : ArcsOf l rs := by
  rw [Bool.and_eq_true, List.all_eq_true, List.all_eq_true] at h1
  exact ⟨h, fun x => by rw [mem_arcL]; exact ⟨fun hx => List.contains_iff_mem.1 (h1.2 x hx), fun hx => List.contains_iff_mem.1 (h1.1 x hx)⟩⟩
def lostA : List Arc := [⟨1, 2, 1, 1⟩, ⟨2, 1, 3, 1⟩]
def oneA : List Arc := [⟨2, 1, 2, 1⟩]
theorem lost_arcs : ArcsOf lostL lostA := arcs_by (by unfold lostA ltA; simp) (by kernel_rfl)
theorem one_arcs : ArcsOf oneL oneA := arcs_by (by unfold oneA; simp) (by kernel_rfl)
/-- What stays in a set of places. -/
theorem reach_in {rs : List Arc} {want : Int → Bool} {s y : Int} {S : Int → Prop} (h0 : S s) (hc : ∀ x ∈ rs, want x.kind = true → S x.a → S x.b) (h : ReachR rs want s y) : S y := by
  induction h with
  | refl => exact h0
  | step _ hx hw ih => exact hc _ hx hw ih
theorem lost_mem {x : Arc} : x ∈ lostA ↔ x = ⟨1, 2, 1, 1⟩ ∨ x = ⟨2, 1, 3, 1⟩ := by unfold lostA; simp
theorem lost_c1 : circB lostA 1 wW = false := by
  rw [← Bool.not_eq_true, circB_iff]
  rintro ⟨x, hx, hk, hr⟩
  have := reach_in (S := fun z => z = 2) ?_ (fun y hy hw he => ?_) hr
  · rcases lost_mem.1 hx with rfl | rfl
    · exact absurd this (by decide)
    · exact absurd hk (by decide)
  · rcases lost_mem.1 hx with rfl | rfl
    · rfl
    · exact absurd hk (by decide)
  · rcases lost_mem.1 hy with rfl | rfl
    · rfl
    · exact absurd hw (by decide)
theorem lost_c2 : circB lostA 2 wP = false := by
  rw [← Bool.not_eq_true, circB_iff]
  rintro ⟨x, hx, hk, hr⟩
  rcases lost_mem.1 hx with rfl | rfl <;> exact absurd hk (by decide)
theorem lost_c3 : circB lostA 3 wP = true := by
  rw [circB_iff]
  refine ⟨⟨2, 1, 3, 1⟩, lost_mem.2 (.inr rfl), rfl, ?_⟩
  have h1 : ReachR lostA wP 1 1 := .refl
  exact .step (x := ⟨1, 2, 1, 1⟩) h1 (lost_mem.2 (.inl rfl)) rfl
theorem lost_faults : faultsF lostL lostA = [sRw] := by
  unfold faultsF
  rw [show lostL.length = 8 from rfl, lost_ab, lost_bt, lost_c1, lost_c2, lost_c3]
  rfl
theorem strict_one : ∀ {a b : List Int}, Strict a → Strict b → (∀ x, x ∈ a ↔ x ∈ b) → a = b := fun {a b} ha hb h => by
  refine List.Perm.eq_of_pairwise (le := fun x y => x < y) (fun x y _ _ h1 h2 => by omega) ha hb ?_
  exact (List.perm_ext_iff_of_nodup (strict_nodup ha) (strict_nodup hb)).2 h
theorem sort_by {a b : List Int} (hb : Strict b) (ha : a.Nodup) (h : ∀ x, x ∈ a ↔ x ∈ b) : sortM a = b := strict_one (strict_sort ha) hb fun x => sortM_mem.trans (h x)
theorem lost_order : orderM lostA (comL lostL).length (comL lostL) [] = none := by
  have e : comL lostL = [1, 2] := by rfl
  rw [e]
  show orderM lostA (1 + 1) [1, 2] [] = none
  unfold orderM
  have hs : sortM [1, 2] = [1, 2] := sort_by (by unfold Strict; simp) (by simp) (fun x => Iff.rfl)
  have hf : freeM lostA [1, 2] = none := by unfold freeM; rw [hs]; rfl
  rw [hf]; rfl
theorem one_order : orderM oneA (comL oneL).length (comL oneL) [] = some [2, 1] := by
  have e : comL oneL = [2, 1] := by rfl
  rw [e]
  show orderM oneA (1 + 1) [2, 1] [] = some [2, 1]
  have hs : sortM [2, 1] = [1, 2] := sort_by (by unfold Strict; simp) (by simp) (fun x => by simp [or_comm])
  have hf : freeM oneA [2, 1] = some 2 := by unfold freeM; rw [hs]; rfl
  have hs1 : sortM [1] = [1] := sort_by (by unfold Strict; simp) (by simp) (fun x => Iff.rfl)
  have hf1 : freeM oneA [1] = some 1 := by unfold freeM; rw [hs1]; rfl
  unfold orderM
  rw [hf]
  show orderM oneA (0 + 1) (takeOut [2, 1] 2) ([] ++ [2]) = _
  rw [show takeOut [2, 1] 2 = [1] by rfl]
  unfold orderM
  rw [hf1]
  rfl
theorem lost_anom {E : Int → List Int} {ks : List Int} (G : GraphOf lostA wA E) (hs : Strict ks) (hk : ∀ x, x ∈ ks ↔ (E x).isEmpty = false) : anomF E ks = some [1, 2] := by
  have mem : ∀ x y, y ∈ E x ↔ (x = 1 ∧ y = 2) ∨ (x = 2 ∧ y = 1) := fun x y => by
    rw [(G x).2 y]
    constructor
    · rintro ⟨a, ha, rfl, rfl, _⟩
      rcases lost_mem.1 ha with rfl | rfl
      · exact .inl ⟨rfl, rfl⟩
      · exact .inr ⟨rfl, rfl⟩
    · rintro (⟨rfl, rfl⟩ | ⟨rfl, rfl⟩)
      · exact ⟨_, lost_mem.2 (.inl rfl), rfl, rfl, rfl⟩
      · exact ⟨_, lost_mem.2 (.inr rfl), rfl, rfl, rfl⟩
  have e1 : E 1 = [2] := strict_one (G 1).1 (by unfold Strict; simp) fun y => by rw [mem]; simp
  have e2 : E 2 = [1] := strict_one (G 2).1 (by unfold Strict; simp) fun y => by rw [mem]; simp
  have e3 : ks = [1, 2] := strict_one hs (by unfold Strict; simp) fun x => by
    rw [hk]
    constructor
    · intro h
      cases hE : E x with
      | nil => rw [hE] at h; cases h
      | cons y r =>
        have := (mem x y).1 (by rw [hE]; exact List.mem_cons_self)
        simp; omega
    · intro h
      simp at h
      rcases h with rfl | rfl
      · rw [e1]; rfl
      · rw [e2]; rfl
  have w1 : ∀ k x, WalkR E 1 k x ↔ (k = 0 ∧ x = 1) ∨ (k = 1 ∧ x = 2) := fun k x => by
    constructor
    · intro h
      induction h with
      | zero => exact .inl ⟨rfl, rfl⟩
      | @succ k x y h1 h2 _ ih => have := (mem x y).1 h2; omega
    · rintro (⟨rfl, rfl⟩ | ⟨rfl, rfl⟩)
      · exact .zero
      · exact .succ (by decide) ((mem 2 1).2 (.inr ⟨rfl, rfl⟩)) .zero
  have s1 : shortF E 1 = some [1, 2] := by
    refine shortF_eq ⟨fun z => if z = 1 then some 0 else if z = 2 then some 1 else none, fun x k => ?_, ?_⟩
    · simp only [w1]
      constructor
      · intro h
        split at h
        · cases h; rename_i e; exact ⟨.inl ⟨rfl, e⟩, fun j hj => Nat.zero_le _⟩
        · split at h
          · cases h; rename_i e1 e2; exact ⟨.inr ⟨rfl, e2⟩, fun j hj => by omega⟩
          · cases h
      · rintro ⟨⟨rfl, rfl⟩ | ⟨rfl, rfl⟩, _⟩ <;> rfl
    · refine .go (b := 2) ?_ (by decide) (.fin ?_)
      · unfold bestM; rw [e1]; rfl
      · unfold bestM; rw [e2]; rfl
  have s2 : shortF E 2 = none := by
    refine shortF_eq ⟨fun z => if z = 2 then some 0 else none, fun x k => ?_, ?_⟩
    · constructor
      · intro h
        replace h : (if x = 2 then some 0 else none : Option Nat) = some k := h
        split at h
        · cases h; rename_i e; rw [e]; exact ⟨.zero, fun j hj => Nat.zero_le _⟩
        · cases h
      · rintro ⟨h, _⟩
        cases h with
        | zero => rfl
        | succ h1 h2 h3 => have := (mem _ _).1 h2; omega
    · refine .no ?_
      unfold bestM; rw [e2]; rfl
  rw [e3]
  unfold anomF
  rw [List.foldl_cons, List.foldl_cons, List.foldl_nil]
  unfold anS
  rw [s1, s2]
theorem one_only : onlyM oneL [1] = [⟨1, 1, 0, 0, 0⟩, ⟨2, 1, 1, 0, 1⟩, ⟨4, 1, 0, 0, 0⟩] := by rfl
end Go.Proofs.YtibhpoikhkokiaaGreat.Hw

/- What functions of the program come to, by the evaluator: printed by a program of this session (gen.py) and checked here. -/
set_option linter.unusedVariables false
set_option maxRecDepth 100000
namespace Go.Proofs.YtibhpoikhkokiaaGreat.Hw
open Go Go.Proofs

/-- justiciar justiciarref18.SameInts -/
def f25 (pa_A : Option Addr) (pa_n pa_c : Nat) (pb_A : Option Addr) (pb_n pb_c : Nat) (H : Hp) (Q : Value → Hp → Prop) : Prop :=
  cnd ((((pa_n : Nat) : Int) : Int) != ((pb_n : Nat) : Int)) (Q (.bool false) H) (LoopF (σ := (Int × Unit) × Unit) ((0, ()), ()) H fun s1 H2 next3 => cnd (decide ((s1.1.1 : Int) < ((pa_n : Nat) : Int))) (0 ≤ (s1.1.1 : Int)
    ∧ (s1.1.1 : Int) < ((pa_n : Nat) : Int) ∧ onPtr pa_A fun b4 o4 => ∃ x5 : Int, cl H2 b4 (o4 + (s1.1.1 : Int).toNat * 1) = some (.int .i64 x5) ∧ 0 ≤ (s1.1.1 : Int) ∧ (s1.1.1 : Int) < ((pb_n : Nat) : Int) ∧ onPtr pb_A
    fun b6 o6 => ∃ x7 : Int, cl H2 b6 (o6 + (s1.1.1 : Int).toNat * 1) = some (.int .i64 x7) ∧ cnd ((x5 : Int) != x7) (Q (.bool false) H2) (KeepX [some (.v (.slice pa_A pa_n pa_c)), some (.v (.slice pb_A pb_n pb_c)), some
    (.v (.int .i64 ((pa_n : Nat) : Int)))] [] ∧ next3 ((IntKind.i64.wrap (s1.1.1 + 1), ()), ()) H2)) (Q (.bool true) H2))
noncomputable def fcx25 : Cx := cx 26 [] [(4, ⟨[0, 1, 12], [], [(13, .int .i64)], []⟩)] [(6, (.look 0 (.look 1 (.look 2 (.look 3 (.look 4 (.look 5 (.look 6 (.look 7 (.look 8 .done))))))))))] []
theorem f25.eq (pa_A : Option Addr) (pa_n pa_c : Nat) (pb_A : Option Addr) (pb_n pb_c : Nat) (H : Hp) (Q : Value → Hp → Prop) : f25 pa_A pa_n pa_c pb_A pb_n pb_c H Q = wFun fcx25 Tryz.f25 [.slice pa_A pa_n pa_c, .slice pb_A pb_n pb_c] H Q := by kernel_rfl
theorem f25.ok (pa_A : Option Addr) (pa_n pa_c : Nat) (pb_A : Option Addr) (pb_n pb_c : Nat) {H : Hp} {Q : Value → Hp → Prop} (h : f25 pa_A pa_n pa_c pb_A pb_n pb_c H Q) : HCalls Tryz.prog 25 [.slice pa_A pa_n pa_c, .slice pb_A pb_n pb_c] H Q := hcalls_of (cxOk 26 [] [(4, ⟨[0, 1, 12], [], [(13, .int .i64)], []⟩)] [(6, (.look 0 (.look 1 (.look 2 (.look 3 (.look 4 (.look 5 (.look 6 (.look 7 (.look 8 .done))))))))))] []) Tryz.func25 (Eq.mp (f25.eq pa_A pa_n pa_c pb_A pb_n pb_c H Q) h)

end Go.Proofs.YtibhpoikhkokiaaGreat.Hw

/- Histories: awake (c11). -/
set_option linter.unusedVariables false
set_option linter.unusedSimpArgs false
set_option maxRecDepth 20000
namespace Go.Proofs.YtibhpoikhkokiaaGreat.Hw
open Go Go.Proofs
section
variable {H H' : Hp} {Q : Value → Hp → Prop}
/-- The same numbers. -/
theorem c25 {A B : Option Addr} {n k ca cb : Nat} {l r : List Int} (hA : SlAt inC H A n l) (hB : SlAt inC H B k r) (hq : Q (.bool (decide (l = r))) H) : HCalls Tryz.prog 25 [.slice A n ca, .slice B k cb] H Q := by
  refine f25.ok _ _ _ _ _ _ ?_
  unfold f25
  obtain rfl := hA.len
  obtain rfl := hB.len
  have hl1 := hA.lt
  have hl2 := hB.lt
  refine cndI (fun hne => ?_) fun heq => ?_
  · have : l ≠ r := fun e => by subst e; simp at hne
    rw [decide_eq_false this] at hq; exact hq
  have hlen : l.length = r.length := by
    have : ((l.length : Int) != (r.length : Int)) = false := heq
    simp at this; omega
  refine scan hl1 (fun i H' => H' = H ∧ l.take i = r.take i) ⟨rfl, by simp⟩ (fun i H2 next hi hI hnext => ?_) (fun H2 next hI => ?_)
  · obtain ⟨rfl, ht⟩ := hI
    obtain ⟨x, hx⟩ := get_of hi
    obtain ⟨y, hy⟩ := get_of (l := r) (i := i) (by omega)
    dsimp only
    refine cndT (decide_eq_true (by omega)) ⟨by omega, by omega, rd_in hA hx fun q o _ k1 => ⟨x, by simpa using k1, by omega, by omega, rd_in hB hy fun q o _ k2 => ⟨y, by simpa using k2, cndI (fun hne => ?_) fun he => ⟨rfl, hnext H2 ⟨rfl, ?_⟩⟩⟩⟩⟩
    · have : l ≠ r := fun e => by
        subst e
        rw [hx] at hy; cases hy; simp at hne
      rw [decide_eq_false this] at hq; exact hq
    · have he : x = y := by simpa using he
      rw [take_snoc hx, take_snoc hy, ht, he]
  · obtain ⟨rfl, ht⟩ := hI
    rw [List.take_length, hlen, List.take_length] at ht
    dsimp only
    refine cndF (decide_eq_false (by omega)) ?_
    rw [decide_eq_true ht] at hq; exact hq
theorem c34 {t : Int} (hq : Q (.agg #[.int .i64 1, .int .i64 t, .int .i64 0, .int .i64 0, .int .i64 0]) H) : HCalls Tryz.prog 34 [.int .i64 t] H Q := by
  refine f34.ok _ ?_
  unfold f34; exact hq
theorem c35 {t i f s : Int} (hq : Q (.agg #[.int .i64 2, .int .i64 t, .int .i64 i, .int .i64 f, .int .i64 s]) H) : HCalls Tryz.prog 35 [.int .i64 t, .int .i64 i, .int .i64 f, .int .i64 s] H Q := by
  refine f35.ok _ _ _ _ ?_
  unfold f35; exact hq
theorem c36 {t i s : Int} (hq : Q (.agg #[.int .i64 3, .int .i64 t, .int .i64 i, .int .i64 0, .int .i64 s]) H) : HCalls Tryz.prog 36 [.int .i64 t, .int .i64 i, .int .i64 s] H Q := by
  refine f36.ok _ _ _ ?_
  unfold f36; exact hq
theorem c37 {t : Int} (hq : Q (.agg #[.int .i64 4, .int .i64 t, .int .i64 0, .int .i64 0, .int .i64 0]) H) : HCalls Tryz.prog 37 [.int .i64 t] H Q := by
  refine f37.ok _ ?_
  unfold f37; exact hq
/-- A new block of fixed cells as a slice. -/
theorem fresh_sl {α : Type} {f : α → List Value} {g ty : Nat} {l : List α} {vs : List Value} (hv : vs = l.flatMap f) (hs : l.length < huge) : SlAt f (upd g (.cells vs.toArray ty (0, 0)) H) (some ⟨g, 0, none⟩) l.length l :=
  ⟨rfl, .inr ⟨g, 0, rfl, fun j v hj => by rw [cl_cells upd_at, Nat.zero_add, hv]; exact hj⟩, hs⟩
theorem fitsQ_of {l : List Ev} {T : List Int} {v f : Bool} (hv : validM l = v) (hf : fitsM l T = f) (h : ∀ H', Ext H H' → Q (.tuple #[.bool (v && f), .int .i64 (if v then 0 else 2)]) H') : FitsQ H Q l T := by
  subst hv hf; exact h
theorem c11 (hq : ∀ H', Ext H H' → Q (.bool true) H') : HCalls Tryz.prog 11 [] H Q := by
  refine f11.ok ?_
  unfold f11
  refine c34 ⟨_, _, _, _, _, rfl, c34 ⟨_, _, _, _, _, rfl, c35 ⟨_, _, _, _, _, rfl, c35 ⟨_, _, _, _, _, rfl, c36 ⟨_, _, _, _, _, rfl, c37 ⟨_, _, _, _, _, rfl, c36 ⟨_, _, _, _, _, rfl, c37 ⟨_, _, _, _, _, rfl, fun g57 hg57 => ?_⟩⟩⟩⟩⟩⟩⟩⟩
  have hL := fresh_sl (H := H) (g := g57) (ty := 35) (f := evC) (l := lostL) (vs := lostL.flatMap evC) rfl (by unfold huge; decide)
  have x58 : Ext H (upd g57 (Obj.cells (lostL.flatMap evC).toArray 35 (0, 0)) H) := Ext.new hg57
  change HCalls _ _ _ (upd g57 (Obj.cells (lostL.flatMap evC).toArray 35 (0, 0)) H) _
  generalize (upd g57 (Obj.cells (lostL.flatMap evC).toArray 35 (0, 0)) H) = H58 at hL x58 ⊢
  have hL : SlAt evC H58 (some ⟨g57, 0, none⟩) 8 lostL := hL
  refine c13 hL (Nat.le_refl _) ⟨(fun h => by rw [lost_valid] at h; cases h), fun _ rs A61 c61 H60 ha x60 S61 _ => ⟨_, _, _, _, rfl, ?_⟩⟩
  obtain rfl := arcs_one ha lost_arcs
  rw [lost_faults] at S61 ⊢
  clear ha
  have hL60 := hL.ext x60
  refine c17 hL60 (Nat.le_refl _) (fitsQ_of lost_valid lost_serial fun H64 x64 => ⟨_, _, rfl, ?_⟩)
  have hL64 := hL60.ext x64
  refine c16 hL64 (Nat.le_refl _) (fitsQ_of lost_valid lost_com fun H68 x68 => ⟨_, _, rfl, ?_⟩)
  have hL68 := hL64.ext x68
  refine c18 hL68 (Nat.le_refl _) ⟨(fun h => by rw [lost_valid] at h; cases h), fun _ rs A73 c73 H72 ha x72 S73 _ => ⟨_, _, _, _, rfl, ?_⟩⟩
  obtain rfl := arcs_one ha lost_arcs
  have hL72 := hL68.ext x72
  refine c29 hL72 (Nat.le_refl _) ⟨(fun h => by rw [lost_valid] at h; cases h), (fun _ h => by rw [show lostL.length = 8 from rfl, lost_ab, lost_bt] at h; cases h), fun _ _ rs ha => ⟨fun ho H76 x76 => ⟨_, _, _, _, _, rfl, ?_⟩, (fun o ho => by rw [arcs_one ha lost_arcs, lost_order] at ho; cases ho)⟩⟩
  have hL76 := hL72.ext x76
  refine c23 hL76 (Nat.le_refl _) ⟨(fun h => by rw [lost_valid] at h; cases h), fun _ rs E ks ha G hs hk => ?_⟩
  obtain rfl := arcs_one ha lost_arcs
  rw [lost_anom G hs hk]
  refine ⟨(fun h => by cases h), fun o ho b82 c82 H81 x81 S82 _ => ⟨_, _, _, _, rfl, ?_⟩⟩
  cases ho
  refine c34 ⟨_, _, _, _, _, rfl, c35 ⟨_, _, _, _, _, rfl, c36 ⟨_, _, _, _, _, rfl, c37 ⟨_, _, _, _, _, rfl, c34 ⟨_, _, _, _, _, rfl, c35 ⟨_, _, _, _, _, rfl, c37 ⟨_, _, _, _, _, rfl, fun g133 hg133 => ?_⟩⟩⟩⟩⟩⟩⟩
  have hO := fresh_sl (H := H81) (g := g133) (ty := 35) (f := evC) (l := oneL) (vs := oneL.flatMap evC) rfl (by unfold huge; decide)
  have x134 : Ext H81 (upd g133 (Obj.cells (oneL.flatMap evC).toArray 35 (0, 0)) H81) := Ext.new hg133
  change HCalls _ _ _ (upd g133 (Obj.cells (oneL.flatMap evC).toArray 35 (0, 0)) H81) _
  generalize (upd g133 (Obj.cells (oneL.flatMap evC).toArray 35 (0, 0)) H81) = H134 at hO x134 ⊢
  have hO : SlAt evC H134 (some ⟨g133, 0, none⟩) 7 oneL := hO
  refine c29 hO (Nat.le_refl _) ⟨(fun h => by rw [one_valid] at h; cases h), (fun _ h => by rw [show oneL.length = 7 from rfl, one_ab, one_bt] at h; cases h), fun _ _ rs ha => ?_⟩
  obtain rfl := arcs_one ha one_arcs
  rw [one_order]
  refine ⟨(fun h => by cases h), fun o ho A137 c137 H136 x136 S137 _ => ⟨_, _, _, _, _, rfl, fun g140 hg140 => ?_⟩⟩
  cases ho
  have h12 := fresh_sl (H := H136) (g := g140) (ty := 3) (f := inC) (l := [1, 2]) (vs := [Value.int .i64 1, .int .i64 2]) rfl (by unfold huge; decide)
  have x141 : Ext H136 (upd g140 (Obj.cells [Value.int .i64 1, .int .i64 2].toArray 3 (0, 0)) H136) := Ext.new hg140
  generalize (upd g140 (Obj.cells [Value.int .i64 1, .int .i64 2].toArray 3 (0, 0)) H136) = H141 at h12 x141 ⊢
  have hO141 := (hO.ext x136).ext x141
  refine c12 hO141 (Nat.le_refl _) h12 (fitsQ_of one_valid one_fits fun H143 x143 => ⟨_, _, rfl, fun g146 hg146 => ?_⟩)
  have h1 := fresh_sl (H := H143) (g := g146) (ty := 3) (f := inC) (l := [1]) (vs := [Value.int .i64 1]) rfl (by unfold huge; decide)
  have x147 : Ext H143 (upd g146 (Obj.cells [Value.int .i64 1].toArray 3 (0, 0)) H143) := Ext.new hg146
  generalize (upd g146 (Obj.cells [Value.int .i64 1].toArray 3 (0, 0)) H143) = H147 at h1 x147 ⊢
  have hO147 := (hO141.ext x143).ext x147
  refine c31 hO147 (Nat.le_refl _) h1 ⟨(fun h => by rw [one_valid] at h; cases h), fun _ A150 c150 H149 x149 S150 _ => ⟨_, _, _, _, rfl, c34 ⟨_, _, _, _, _, rfl, fun g159 hg159 => ?_⟩⟩⟩
  rw [one_only] at S150 ⊢
  have hB := fresh_sl (H := H149) (g := g159) (ty := 35) (f := evC) (l := badL) (vs := badL.flatMap evC) rfl (by unfold huge; decide)
  have x160 : Ext H149 (upd g159 (Obj.cells (badL.flatMap evC).toArray 35 (0, 0)) H149) := Ext.new hg159
  change HCalls _ _ _ (upd g159 (Obj.cells (badL.flatMap evC).toArray 35 (0, 0)) H149) _
  generalize (upd g159 (Obj.cells (badL.flatMap evC).toArray 35 (0, 0)) H149) = H160 at hB x160 ⊢
  have hB : SlAt evC H160 (some ⟨g159, 0, none⟩) 1 badL := hB
  refine c18 hB (Nat.le_refl _) ⟨fun _ H162 x162 => ⟨_, _, _, _, rfl, ?_⟩, (fun h => by rw [bad_valid] at h; cases h)⟩
  have y81 : Ext H81 H162 := (((((x134.trans x136).trans x141).trans x143).trans x147).trans x149).trans (x160.trans x162)
  have y149 : Ext H149 H162 := x160.trans x162
  have y136 : Ext H136 H162 := ((x141.trans x143).trans x147).trans (x149.trans y149)
  have y72 : Ext H72 H162 := (x76.trans x81).trans y81
  have y60 : Ext H60 H162 := (x64.trans x68).trans (x72.trans y72)
  have y0 : Ext H H162 := x58.trans (x60.trans y60)
  have T61 := S61.ext y60
  have T73 := S73.ext y72
  have T82 := S82.ext y81
  have T137 := S137.ext y136
  have T150 := S150.ext y149
  refine jn_intro (fun J => J false) ?_ fun J hJ => cndF rfl (cndF rfl hJ)
  refine cndF rfl (jn_intro (fun J => ∀ H', Ext H H' → J true H') (fun H' hx => hq H' hx) fun J hJ => ⟨by omega, by decide, ?_⟩)
  refine at_cells T61.cells (by simp [stC]) fun b167 o167 _ k167 => ⟨sRw, k167 0 _ rfl, cndT (beq_iff_eq.2 rfl) (cndT rfl (cndT rfl (cndT rfl (cndT rfl (cndT rfl ⟨by omega, by decide, ?_⟩)))))⟩
  refine rd_ar (i := 0) T73 rfl fun q o _ k1 k2 k3 k4 => ⟨1, by simpa using k1, 2, by simpa using k2, 1, by simpa using k3, 1, by simpa using k4, cndT rfl ⟨by omega, by decide, ?_⟩⟩
  refine rd_ar (i := 1) T73 rfl fun q o _ k1 k2 k3 k4 => ⟨2, by simpa using k1, 1, by simpa using k2, 3, by simpa using k3, 1, by simpa using k4, cndT rfl (cndT rfl (cndT rfl (cndT rfl fun g179 hg179 => ?_)))⟩
  have hw := fresh_sl (H := H162) (g := g179) (ty := 3) (f := inC) (l := [1, 2]) (vs := [Value.int .i64 1, .int .i64 2]) rfl (by unfold huge; decide)
  have x180 : Ext H162 (upd g179 (Obj.cells [Value.int .i64 1, .int .i64 2].toArray 3 (0, 0)) H162) := Ext.new hg179
  generalize (upd g179 (Obj.cells [Value.int .i64 1, .int .i64 2].toArray 3 (0, 0)) H162) = H180 at hw x180 ⊢
  refine c25 (T82.ext x180) hw ⟨_, rfl, cndT rfl (cndT rfl (cndT rfl fun g184 hg184 => ?_))⟩
  have hw2 := fresh_sl (H := H180) (g := g184) (ty := 3) (f := inC) (l := [2, 1]) (vs := [Value.int .i64 2, .int .i64 1]) rfl (by unfold huge; decide)
  have x185 : Ext H180 (upd g184 (Obj.cells [Value.int .i64 2, .int .i64 1].toArray 3 (0, 0)) H180) := Ext.new hg184
  generalize (upd g184 (Obj.cells [Value.int .i64 2, .int .i64 1].toArray 3 (0, 0)) H180) = H185 at hw2 x185 ⊢
  refine c25 ((T137.ext x180).ext x185) hw2 ⟨_, rfl, cndT rfl (cndT rfl (cndT rfl (cndT rfl ⟨by omega, by decide, ?_⟩)))⟩
  refine rd_ev (i := 1) ((T150.ext x180).ext x185) rfl fun q o _ k1 k2 k3 k4 k5 => ⟨0, by simpa using k4, cndT rfl (cndT rfl (cndT rfl ?_))⟩
  refine c14 ((((((hL76.ext x81).ext y81).ext x180).ext x185))) fun H192 x192 => ⟨true, by rw [lost_valid], hJ H192 ((((y0.trans x180).trans x185).trans x192))⟩
end
end Go.Proofs.YtibhpoikhkokiaaGreat.Hw

/- Histories: what fits has only faults of the third kind (plain law). -/
set_option linter.unusedVariables false
set_option linter.unusedSimpArgs false
namespace Go.Proofs.YtibhpoikhkokiaaGreat.Hw
open Go Go.Proofs
section
variable {l : List Ev} {t : Int}
theorem comAt_of {c : Nat} (h : commitI l t = some c) : comAt l t = (c : Int) := by unfold comAt natOr; rw [h]; rfl
theorem com_some (h : comB l t = true) : ∃ c, commitI l t = some c := Option.isSome_iff_exists.1 h
theorem found_ex {st lo hi u : Int} (h : foundB l t st lo hi u = true) : ∃ p, lo ≤ p ∧ p ≤ hi ∧ fitsB l t st p u = true := by
  unfold foundB at h
  obtain ⟨k, hk, h2⟩ := List.any_eq_true.1 h
  have := List.mem_range.1 hk
  exact ⟨lo + k, by omega, by omega, h2⟩
theorem vers_com {item v : Int} (h : v ∈ versM l item) : comB l v = true := by
  unfold versM at h
  obtain ⟨j, hj, hv⟩ := List.mem_filterMap.1 h
  cases hx : l[j]? with
  | none => rw [hx] at hv; cases hv
  | some x =>
    rw [hx] at hv
    simp only at hv
    split at hv
    · rename_i hc
      cases hv
      rw [Bool.and_eq_true] at hc
      exact com_ex.2 ⟨j, x, hx, isC_iff.2 ⟨by simpa using hc.1, rfl⟩⟩
    · cases hv
/-- The places of commits rise in the versions of an item. -/
theorem vers_rise (hok : OkTo l l.length) {k : Int} : ∀ n, n ≤ l.length → (versM (l.take n) k).Pairwise (fun a b => comAt l a < comAt l b) ∧ ∀ v ∈ versM (l.take n) k, comAt l v < n := by
  intro n
  induction n with
  | zero => intro _; rw [List.take_zero, vers_nil]; exact ⟨List.Pairwise.nil, fun v hv => by cases hv⟩
  | succ n ih =>
    intro hn
    obtain ⟨h1, h2⟩ := ih (by omega)
    obtain ⟨x, hx⟩ := get_of (l := l) (i := n) (by omega)
    rw [take_snoc hx, vers_snoc]
    by_cases hc : (x.op == 4 && wroteM (l.take n) x.txn k) = true
    · rw [if_pos hc]
      rw [Bool.and_eq_true] at hc
      have ho : x.op = 4 := by simpa using hc.1
      have hcx : comAt l x.txn = n := comAt_of (hok.commit_at hx (isC_iff.2 ⟨ho, rfl⟩))
      refine ⟨?_, fun v hv => ?_⟩
      · rw [List.pairwise_append]
        refine ⟨h1, List.pairwise_singleton _ _, fun a ha b hb => ?_⟩
        rw [List.mem_singleton.1 hb, hcx]; exact h2 a ha
      · rcases List.mem_append.1 hv with hv | hv
        · have := h2 v hv; omega
        · rw [List.mem_singleton.1 hv, hcx]; omega
    · rw [if_neg hc, List.append_nil]
      exact ⟨h1, fun v hv => by have := h2 v hv; omega⟩
end
end Go.Proofs.YtibhpoikhkokiaaGreat.Hw
