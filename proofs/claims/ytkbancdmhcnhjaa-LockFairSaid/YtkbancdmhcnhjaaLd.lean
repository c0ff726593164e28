/- Locks: on, free; clones. -/
import Derived.Test.YtkbancdmhcnhjaaLc
set_option linter.unusedVariables false
set_option linter.unusedSimpArgs false
namespace Go.Proofs.Ytkbancdmhcnhjaa.Hw
open Go Go.Proofs
section
variable {H0 H : Hp} {Q : Value → Hp → Prop}
theorem lkC_len {l : List Lk} : (l.flatMap lkC).length = l.length * 3 := flat_length (fun _ _ => rfl)
theorem wtC_len {l : List Wt} : (l.flatMap wtC).length = l.length * 3 := flat_length (fun _ _ => rfl)
theorem prC_len {l : List (Int × Int)} : (l.flatMap prC).length = l.length * 2 := flat_length (fun _ _ => rfl)
theorem inC_len {l : List Int} : (l.flatMap inC).length = l.length * 1 := flat_length (fun _ _ => rfl)
theorem lkC_one {l : List Lk} : ∀ v ∈ l.flatMap lkC, v.oneCell' = true := fun v hv => by
  obtain ⟨x, _, hv⟩ := List.mem_flatMap.1 hv
  simp only [lkC, List.mem_cons, List.not_mem_nil, or_false] at hv
  rcases hv with rfl | rfl | rfl <;> rfl
theorem wtC_one {l : List Wt} : ∀ v ∈ l.flatMap wtC, v.oneCell' = true := fun v hv => by
  obtain ⟨x, _, hv⟩ := List.mem_flatMap.1 hv
  simp only [wtC, List.mem_cons, List.not_mem_nil, or_false] at hv
  rcases hv with rfl | rfl | rfl <;> rfl
theorem prC_one {l : List (Int × Int)} : ∀ v ∈ l.flatMap prC, v.oneCell' = true := fun v hv => by
  obtain ⟨x, _, hv⟩ := List.mem_flatMap.1 hv
  simp only [prC, List.mem_cons, List.not_mem_nil, or_false] at hv
  rcases hv with rfl | rfl <;> rfl
theorem inC_one {l : List Int} : ∀ v ∈ l.flatMap inC, v.oneCell' = true := fun v hv => by
  obtain ⟨x, _, hv⟩ := List.mem_flatMap.1 hv
  simp only [inC, List.mem_cons, List.not_mem_nil, or_false] at hv
  rw [hv]; rfl
theorem freshRow {A : Option Addr} {n el esz eby : Nat} {vals : List Value} {K : Option Addr → Nat → Nat → Hp → Prop} (hx : Ext H0 H) (hA : cellsAt H A vals) (hl : vals.length = n * esz) (ho : ∀ v ∈ vals, v.oneCell' = true) (hz1 : n * eby ≤ 140737488355328) (hz2 : n ≤ 140737488355328)
    (hk : ∀ A' c' H', Row H0 H' A' n c' esz vals → Ext H H' → (∀ b, rowB A' b → H b = none) → K A' n c' H') : newF H el [] fun g H2 => appendF H2 el esz eby (some ⟨g, 0, none⟩) 0 0 A n K := by
  intro g hg
  have hx2 : Ext H (upd g (.cells ([] : List Value).toArray el (0, 0)) H) := Ext.new hg
  have R : Row H0 (upd g (.cells ([] : List Value).toArray el (0, 0)) H) (some ⟨g, 0, none⟩) 0 0 esz [] := ⟨by simp, Nat.le_refl _, .inr ⟨g, [], el, rfl, upd_at, by simp, by simp, hx.none hg⟩⟩
  refine R.append (hx.trans hx2) (cellsAt_ext hx2 hA) hl ho (by rw [Nat.zero_add]; exact hz1) (by rw [Nat.zero_add]; exact hz2) ?_
  intro A' c' H' hrow hx3 hch hnew _
  rw [Nat.zero_add, List.nil_append] at hrow
  rw [Nat.zero_add]
  have gone : ∀ b, rowB (some ⟨g, 0, none⟩) b ∨ (upd g (.cells ([] : List Value).toArray el (0, 0)) H) b = none → H b = none := fun b hb => by
    rcases hb with ⟨o, q, hb⟩ | hb
    · cases hb; exact hg
    · exact hx2.none hb
  refine hk A' c' H' hrow (fun b p hb => ?_) (fun b hb => gone b (hnew b hb))
  cases Classical.em (H' b = (upd g (.cells ([] : List Value).toArray el (0, 0)) H) b) with
  | inl h => rw [h]; exact hx2 b p hb
  | inr h => rw [gone b (hch b h).2] at hb; cases hb
/-! ### closures -/
theorem c37 {p : Int × Int} {b o : Nat} {t : Int} (hc : cl H b o = some (.int .i64 t)) (hq : Q (.bool (p.1 == t)) H) : HCalls Try.prog 37 [.agg #[.int .i64 p.1, .int .i64 p.2], .pointer (some ⟨b, o, none⟩)] H Q := by
  refine f37.ok _ _ _ _ ?_
  unfold f37
  exact ⟨by omega, by omega, t, hc, hq⟩
theorem c42 {p : Int × Int} {b o : Nat} {t : Int} (hc : cl H b o = some (.int .i64 t)) (hq : Q (.bool (p.1 == t)) H) : HCalls Try.prog 42 [.agg #[.int .i64 p.1, .int .i64 p.2], .pointer (some ⟨b, o, none⟩)] H Q := by
  refine f42.ok _ _ _ _ ?_
  unfold f42
  exact ⟨by omega, by omega, t, hc, hq⟩
theorem c33 {p : Int × Int} {b o : Nat} {t : Int} (hc : cl H b o = some (.int .i64 t)) (hq : Q (.bool (p.1 == t || p.2 == t)) H) : HCalls Try.prog 33 [.agg #[.int .i64 p.1, .int .i64 p.2], .pointer (some ⟨b, o, none⟩)] H Q := by
  refine f33.ok _ _ _ _ ?_
  unfold f33 jn
  refine ⟨by omega, by omega, t, hc, cndI (fun h => ?_) (fun h => ⟨by omega, by omega, t, hc, ?_⟩)⟩
  · rw [h, Bool.true_or] at hq; exact hq
  · rw [h, Bool.false_or] at hq; exact hq
theorem c29 {x : Lk} {b o : Nat} {t : Int} (hc : cl H b o = some (.int .i64 t)) (hq : Q (.bool (x.txn == t)) H) : HCalls Try.prog 29 [.agg #[.string x.thing, .int .i64 x.txn, .bool x.share], .pointer (some ⟨b, o, none⟩)] H Q := by
  refine f29.ok _ _ _ _ _ ?_
  unfold f29
  exact ⟨t, hc, hq⟩
theorem c31 {x : Wt} {b o : Nat} {t : Int} (hc : cl H b o = some (.int .i64 t)) (hq : Q (.bool (x.txn == t)) H) : HCalls Try.prog 31 [.agg #[.int .i64 x.txn, .string x.thing, .bool x.share], .pointer (some ⟨b, o, none⟩)] H Q := by
  refine f31.ok _ _ _ _ _ ?_
  unfold f31
  exact ⟨t, hc, hq⟩
theorem c43 {x : Wt} {b o : Nat} {t : Int} (hc : cl H b o = some (.int .i64 t)) (hq : Q (.bool (x.txn == t)) H) : HCalls Try.prog 43 [.agg #[.int .i64 x.txn, .string x.thing, .bool x.share], .pointer (some ⟨b, o, none⟩)] H Q := by
  refine f43.ok _ _ _ _ _ ?_
  unfold f43
  exact ⟨t, hc, hq⟩
theorem c57 {x : Wt} {b o : Nat} {t : Int} (hc : cl H b o = some (.int .i64 t)) (hq : Q (.bool (x.txn == t)) H) : HCalls Try.prog 57 [.agg #[.int .i64 x.txn, .string x.thing, .bool x.share], .pointer (some ⟨b, o, none⟩)] H Q := by
  refine f57.ok _ _ _ _ _ ?_
  unfold f57
  exact ⟨t, hc, hq⟩
theorem clash_sym {a b : Lk} : clashM a b.txn b.thing b.share = clashM b a.txn a.thing a.share := by
  unfold clashM
  rw [show decide (a.thing = b.thing) = decide (b.thing = a.thing) from by congr 1; exact propext ⟨Eq.symm, Eq.symm⟩, show decide (a.txn ≠ b.txn) = decide (b.txn ≠ a.txn) from by congr 1; exact propext ⟨Ne.symm, Ne.symm⟩, Bool.and_comm a.share]
theorem c59 {x y : Lk} {b o : Nat} (h1 : cl H b o = some (.string x.thing)) (h2 : cl H b (o + 1) = some (.int .i64 x.txn)) (h3 : cl H b (o + 1 + 1) = some (.bool x.share)) (hq : Q (.bool (clashM y x.txn x.thing x.share)) H) :
    HCalls Try.prog 59 [.agg #[.string y.thing, .int .i64 y.txn, .bool y.share], .pointer (some ⟨b, o, none⟩)] H Q := by
  refine f59.ok _ _ _ _ _ ?_
  unfold f59
  exact ⟨_, h1, _, h2, _, h3, c47 (a := x) (b := y) ⟨_, rfl, by rw [clash_sym]; exact hq⟩⟩
theorem c61 {x : Lk} {w : Wt} {b o : Nat} (h1 : cl H b o = some (.string x.thing)) (h2 : cl H b (o + 1) = some (.int .i64 x.txn)) (h3 : cl H b (o + 1 + 1) = some (.bool x.share)) (hq : Q (.bool (clashM (lockOf w) x.txn x.thing x.share)) H) :
    HCalls Try.prog 61 [.agg #[.int .i64 w.txn, .string w.thing, .bool w.share], .pointer (some ⟨b, o, none⟩)] H Q := by
  refine f61.ok _ _ _ _ _ ?_
  unfold f61
  exact ⟨_, h1, _, h2, _, h3, c48 ⟨_, _, _, rfl, rfl, c47 (a := x) (b := lockOf w) ⟨_, rfl, by rw [clash_sym]; exact hq⟩⟩⟩
theorem c35 {A0 A1 A2 : Option Addr} {n0 c0 n1 c1 n2 c2 : Nat} {l : LK} {txn : Int} (hl : LocksAt H A0 n0 c0 A1 n1 c1 A2 n2 c2 l) (hq : ∀ H', Ext H H' → Q (.bool (l.waits.any fun w => w.txn == txn)) H') :
    HCalls Try.prog 35 [.agg #[.slice A0 n0 c0, .slice A1 n1 c1, .slice A2 n2 c2], .int .i64 txn] H Q := by
  refine f35.ok _ _ _ _ _ _ _ _ _ _ ?_
  unfold f35
  intro g hg
  have hx : Ext H (upd g (.cells [Value.int .i64 txn].toArray 3 (0, 0)) H) := Ext.new hg
  refine c56 (g := fun w => w.txn == txn) (hl.waits.ext hx) (fnOk 57 rfl) (fun x _ Q' hq' => c57 (by rw [cl_cells upd_at]; rfl) hq') ⟨_, rfl, hq _ hx⟩
/-! ### the locks of a thing -/
theorem cells_cut {α : Type} {f : α → List Value} {k : Nat} (hf : ∀ x, (f x).length = k) {A : Option Addr} {l : List α} {p m : Nat} {stay : Bool} (hA : cellsAt H A (l.flatMap f)) (hs : stay = true → m = 0) (hm : p + m ≤ l.length) :
    cellsAt H (cutA A (p * k) stay) (((l.drop p).take m).flatMap f) := by
  by_cases h0 : ((l.drop p).take m).flatMap f = []
  · exact .inl h0
  have hm0 : m ≠ 0 := fun e => h0 (by rw [e]; rfl)
  have hst : stay = false := by cases stay with | false => rfl | true => exact absurd (hs rfl) hm0
  subst hst
  rcases hA with hA | ⟨b, o, rfl, hc⟩
  · exfalso
    apply h0
    rw [List.flatMap_eq_nil_iff] at hA ⊢
    exact fun x hx => hA x (List.mem_of_mem_drop (List.mem_of_mem_take hx))
  · refine .inr ⟨b, o + p * k, ?_, fun j v hj => ?_⟩
    · unfold cutA
      simp only [Option.map_some, Option.some.injEq]
      unfold Addr.add
      by_cases h : p * k = 0
      · rw [h]; rfl
      · simp [h]
    · have hk : 0 < k := by
        refine Nat.pos_of_ne_zero fun e => h0 ?_
        rw [List.flatMap_eq_nil_iff]
        exact fun x _ => List.eq_nil_of_length_eq_zero (by rw [hf, e])
      have hlen : ∀ x ∈ (l.drop p).take m, (f x).length = k := fun x _ => hf x
      have hjl : j < m * k := by
        have := (List.getElem?_eq_some_iff.1 hj).1
        rw [flat_length hlen, List.length_take, List.length_drop, Nat.min_eq_left (by omega)] at this
        exact this
      have hi : j / k < m := Nat.div_lt_of_lt_mul (by rw [Nat.mul_comm]; exact hjl)
      have hq : j % k < k := Nat.mod_lt _ hk
      have hd : j = j / k * k + j % k := by have := Nat.div_add_mod j k; rw [Nat.mul_comm] at this; exact this.symm
      obtain ⟨x, hx⟩ := get_of (l := l) (i := p + j / k) (by omega)
      have hx' : ((l.drop p).take m)[j / k]? = some x := by rw [List.getElem?_take_of_lt hi, List.getElem?_drop]; exact hx
      rw [hd, flat_get hlen hx' hq] at hj
      have h1 := hc ((p + j / k) * k + j % k) v ((flat_get (fun x _ => hf x) hx hq).trans hj)
      rw [Nat.add_mul] at h1
      rw [hd]
      rw [show o + p * k + (j / k * k + j % k) = o + (p * k + j / k * k + j % k) by omega]
      exact h1
theorem SlAt.cut {α : Type} {f : α → List Value} {k : Nat} (hf : ∀ x, (f x).length = k) {A : Option Addr} {n c : Nat} {l : List α} {p m : Nat} (hA : SlAt f H A n l) (hc : n ≤ c) (hm : p + m ≤ l.length) : SlAt f H (cutA A (p * k) (decide (c = p))) m ((l.drop p).take m) :=
  ⟨by rw [List.length_take, List.length_drop]; omega, cells_cut hf hA.cells (fun h => by have := of_decide_eq_true h; have := hA.len; omega) hm, by have := hA.small; rw [List.length_take, List.length_drop]; omega⟩
def onM (l : List Lk) (thing : ByteArray) : List Lk := l.filter fun x => decide (x.thing = thing)
theorem on_eq {l : List Lk} {thing : ByteArray} (hr : Rising l) {k : Nat} (hk1 : posL (fun x : Lk => cmpS x.thing thing) l ≤ k) (hk2 : k ≤ l.length)
    (hin : ∀ j x, posL (fun x : Lk => cmpS x.thing thing) l ≤ j → j < k → l[j]? = some x → x.thing = thing) (hout : ∀ x, l[k]? = some x → x.thing ≠ thing) :
    (l.drop (posL (fun x : Lk => cmpS x.thing thing) l)).take (k - posL (fun x : Lk => cmpS x.thing thing) l) = onM l thing := by
  obtain ⟨h1, h2, h3⟩ := posL_spec (hr.monoS (t := thing))
  generalize posL (fun x : Lk => cmpS x.thing thing) l = p at hk1 hin h1 h2 h3 ⊢
  have hsplit : l = l.take p ++ ((l.drop p).take (k - p) ++ l.drop k) := by
    have e : l.drop k = (l.drop p).drop (k - p) := by rw [List.drop_drop]; congr 1; omega
    rw [e, List.take_append_drop, List.take_append_drop]
  unfold onM
  conv => rhs; rw [hsplit]
  rw [List.filter_append, List.filter_append]
  have f1 : (l.take p).filter (fun x => decide (x.thing = thing)) = [] := by
    rw [List.filter_eq_nil_iff]
    intro x hx
    obtain ⟨j, hj⟩ := List.getElem?_of_mem hx
    rw [List.getElem?_take] at hj
    split at hj
    · rename_i hjp
      have := h2 j x hjp hj
      intro e
      have e := of_decide_eq_true e
      have := (cmpS_eq (a := x.thing) (b := thing)).2 e
      omega
    · cases hj
  have f2 : ((l.drop p).take (k - p)).filter (fun x => decide (x.thing = thing)) = (l.drop p).take (k - p) := by
    rw [List.filter_eq_self]
    intro x hx
    obtain ⟨j, hj⟩ := List.getElem?_of_mem hx
    rw [List.getElem?_take] at hj
    split at hj
    · rw [List.getElem?_drop] at hj
      exact decide_eq_true (hin _ x (by omega) (by omega) hj)
    · cases hj
  have f3g : (l.drop k).filter (fun x => decide (x.thing = thing)) = [] := by
    rw [List.filter_eq_nil_iff]
    intro x hx
    obtain ⟨j, hj⟩ := List.getElem?_of_mem hx
    rw [List.getElem?_drop] at hj
    intro e
    have e := of_decide_eq_true e
    have hkl : k < l.length := by have := (List.getElem?_eq_some_iff.1 hj).1; omega
    obtain ⟨y, hy⟩ := get_of hkl
    have hne := hout y hy
    by_cases hj0 : j = 0
    · subst hj0; rw [Nat.add_zero, hy] at hj; cases hj; exact hne e
    · have hlt := hr k (k + j) y x (by omega) hy hj
      have hge := h3 k y hk1 hy
      unfold ltL at hlt
      rw [ordL_lt] at hlt
      rcases hlt with hlt | hlt
      · rw [e] at hlt
        have := (cmpS_lt (a := y.thing) (b := thing)).2 hlt
        omega
      · exact hne (hlt.1.trans e)
  rw [f1, f2, f3g]; simp
theorem c46b {H0 : Hp} {A0 A1 A2 : Option Addr} {n0 c0 n1 c1 n2 c2 : Nat} {l : LK} {thing : ByteArray} (hl0 : LocksAt H0 A0 n0 c0 A1 n1 c1 A2 n2 c2 l) (hx0 : Ext H0 H) (hr : Rising l.held) (hq : ∀ A n c H', Ext H H' → SlAt lkC H0 A n (onM l.held thing) → Q (.slice A n c) H') :
    HCalls Try.prog 46 [.agg #[.slice A0 n0 c0, .slice A1 n1 c1, .slice A2 n2 c2], .string thing] H Q := by
  refine f46.ok _ _ _ _ _ _ _ _ _ _ ?_
  unfold f46
  have hl := hl0.ext hx0
  refine c69 (t := thing) (cmp := fun x => cmpS x.thing thing) hl.held (fnOk 67 rfl) hr.monoS (fun x _ H' Q' hx hq' => c67 (hq' _ (Ext.refl _))) fun H2 hx2 => ⟨_, _, rfl, ?_⟩
  have hl2 := hl.ext hx2
  obtain ⟨h1, h2, h3⟩ := posL_spec (hr.monoS (t := thing))
  have hon := fun k => on_eq (l := l.held) (thing := thing) hr (k := k)
  generalize posL (fun x : Lk => cmpS x.thing thing) l.held = p at h1 h2 h3 hon ⊢
  have en := hl.held.len
  have hc := hl.cap0
  have hsm := hl.held.lt
  refine ⟨fun m s H' => ∃ k : Nat, s = (((k : Int), ()), ()) ∧ m = l.held.length - k ∧ p ≤ k ∧ k ≤ l.held.length ∧ H' = H2 ∧ ∀ j x, p ≤ j → j < k → l.held[j]? = some x → x.thing = thing, ⟨_, p, rfl, rfl, by omega, h1, rfl, fun j x h h' => by omega⟩, ?_⟩
  rintro m s H' ⟨k, rfl, rfl, hpk, hkl, rfl, hin⟩
  dsimp only
  have stop : (∀ x, l.held[k]? = some x → x.thing ≠ thing) → 0 ≤ (k : Int) ∧ (k : Int) ≤ ((c0 : Nat) : Int) ∧ 0 ≤ (p : Int) ∧ (p : Int) ≤ (k : Int) ∧ Q (.slice (cutA A0 (((p : Int).toNat) * 3) (decide (c0 = ((p : Int).toNat)))) (((k : Int).toNat) - ((p : Int).toNat)) (c0 - ((p : Int).toNat))) H' := fun hout => by
    refine ⟨by omega, by omega, by omega, by omega, ?_⟩
    have e := hon k hpk hkl hin hout
    refine hq _ _ _ _ hx2 ?_
    rw [← e]
    have := SlAt.cut (k := 3) (fun _ => rfl) hl0.held hc (p := p) (m := k - p) (by omega)
    simpa using this
  unfold jn
  by_cases hk : k < l.held.length
  · obtain ⟨x, hx⟩ := get_of hk
    refine cndT (decide_eq_true (by omega)) ⟨by omega, by omega, rd_lk hl2.held hx fun q o _ k1 _ _ => ⟨x.thing, by simpa using k1, ?_⟩⟩
    rw [str_eq]
    refine cndI (fun h => ⟨rfl, _, ?_, k + 1, ?_, rfl, by omega, by omega, rfl, fun j y hj1 hj2 hy => ?_⟩) (fun h => stop (fun y hy => ?_))
    · omega
    · rw [wrap_id (by omega) (by omega)]; rfl
    · by_cases e : j = k
      · subst e; rw [hx] at hy; cases hy; exact of_decide_eq_true h
      · exact hin j y hj1 (by omega) hy
    · rw [hx] at hy; cases hy; exact of_decide_eq_false h
  · refine cndF (decide_eq_false (by omega)) (cndF rfl (stop fun x hx => ?_))
    have := (List.getElem?_eq_some_iff.1 hx).1
    omega
theorem c46 {A0 A1 A2 : Option Addr} {n0 c0 n1 c1 n2 c2 : Nat} {l : LK} {thing : ByteArray} (hl : LocksAt H A0 n0 c0 A1 n1 c1 A2 n2 c2 l) (hr : Rising l.held) (hq : ∀ A n c H', Ext H H' → SlAt lkC H' A n (onM l.held thing) → Q (.slice A n c) H') :
    HCalls Try.prog 46 [.agg #[.slice A0 n0 c0, .slice A1 n1 c1, .slice A2 n2 c2], .string thing] H Q :=
  c46b hl (Ext.refl H) hr fun A n c H' hx h => hq A n c H' hx (h.ext hx)
/-! ### free -/
def freeM (held : List Lk) (waits : List Wt) (txn : Int) (thing : ByteArray) (share : Bool) : Bool :=
  !(held.any fun h => clashM h txn thing share) && ((heldM held txn thing).isSome || !(waits.any fun w => clashM (lockOf w) txn thing share))
theorem on_any {l : List Lk} {thing : ByteArray} {txn : Int} {share : Bool} : ((onM l thing).any fun h => clashM h txn thing share) = (l.any fun h => clashM h txn thing share) := by
  unfold onM
  rw [List.any_filter]
  congr 1
  funext x
  unfold clashM
  cases decide (x.thing = thing) <;> simp
theorem c39 {A0 A1 A2 Aw : Option Addr} {n0 c0 n1 c1 n2 c2 nw cw : Nat} {l : LK} {ws : List Wt} {x : Lk} (hl : LocksAt H A0 n0 c0 A1 n1 c1 A2 n2 c2 l) (hw : SlAt wtC H Aw nw ws) (hr : Rising l.held) (hq : ∀ H', Ext H H' → Q (.bool (freeM l.held ws x.txn x.thing x.share)) H') :
    HCalls Try.prog 39 [.agg #[.slice A0 n0 c0, .slice A1 n1 c1, .slice A2 n2 c2], .agg #[.string x.thing, .int .i64 x.txn, .bool x.share], .slice Aw nw cw] H Q := by
  refine f39.ok _ _ _ _ _ _ _ _ _ _ _ _ _ _ _ ?_
  unfold f39
  intro g hg
  have hx1 : Ext H (upd g (.cells [Value.string x.thing, .int .i64 x.txn, .bool x.share].toArray 67 (0, 0)) H) := Ext.new hg
  have hb : (upd g (.cells [Value.string x.thing, .int .i64 x.txn, .bool x.share].toArray 67 (0, 0)) H) g = some (.cells [Value.string x.thing, .int .i64 x.txn, .bool x.share].toArray 67 (0, 0)) := upd_at
  refine ⟨x.thing, by rw [cl_cells hb]; rfl, c46 (hl.ext hx1) hr fun A n c H5 hx5 hon => ⟨_, _, _, rfl, ?_⟩⟩
  have hb5 := hx5 g _ hb
  refine c60 (g := fun h => clashM h x.txn x.thing x.share) hon (fnOk 59 rfl) (fun y _ Q' hq' => c59 (x := x) (by rw [cl_cells hb5]; rfl) (by rw [cl_cells hb5]; rfl) (by rw [cl_cells hb5]; rfl) hq') ⟨_, rfl, ?_⟩
  rw [on_any]
  unfold freeM at hq
  refine cndI (fun h => ?_) (fun h => ⟨x.txn, by rw [cl_cells hb5]; rfl, x.thing, by rw [cl_cells hb5]; rfl, c38 ((hl.ext hx1).ext hx5) hr fun H13 hx13 => ⟨_, _, _, _, rfl, cndI (fun h2 => ?_) (fun h2 => ?_)⟩⟩)
  · have := hq _ (hx1.trans hx5)
    rw [h] at this; exact this
  · have := hq _ ((hx1.trans hx5).trans hx13)
    rw [h, h2] at this; exact this
  · have hb13 := hx13 g _ hb5
    refine c56 (g := fun w => clashM (lockOf w) x.txn x.thing x.share) (((hw.ext hx1).ext hx5).ext hx13) (fnOk 61 rfl) (fun y _ Q' hq' => c61 (x := x) (by rw [cl_cells hb13]; rfl) (by rw [cl_cells hb13]; rfl) (by rw [cl_cells hb13]; rfl) hq') ⟨_, rfl, ?_⟩
    have := hq _ ((hx1.trans hx5).trans hx13)
    rw [h, h2] at this
    simpa using this
end
end Go.Proofs.Ytkbancdmhcnhjaa.Hw
