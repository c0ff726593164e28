/- Locks: the program's dead. -/
import Derived.Test.YtkbancdmhcnhjaaLo
import Derived.Test.YtkbancdmhcnhjaaHwIter
import Derived.Test.YtkbancdmhcnhjaaHwFc
set_option linter.unusedVariables false
set_option linter.unusedSimpArgs false
namespace Go.Proofs.Ytkbancdmhcnhjaa.Hw
open Go Go.Proofs
/-! ### circles -/
theorem Reach.trans {l : LK} {x y z : Int} (h : Reach l x y) (h' : Reach l y z) : Reach l x z := by
  induction h' with
  | one e => exact .more h e
  | more _ e ih => exact .more ih e
theorem Reach.first {l : LK} {x y : Int} (h : Reach l x y) : ∃ u ∈ waitedL l x, u = y ∨ Reach l u y := by
  induction h with
  | one e => exact ⟨_, e, .inl rfl⟩
  | more _ e ih =>
    obtain ⟨u, hu, h | h⟩ := ih
    · exact ⟨u, hu, .inr (.one (h ▸ e))⟩
    · exact ⟨u, hu, .inr (.more h e)⟩
theorem cyc_succ {l : LK} {x : Int} (h : Reach l x x) : ∃ u ∈ waitedL l x, Reach l u u := by
  obtain ⟨u, hu, h' | h'⟩ := h.first
  · exact ⟨u, hu, h' ▸ h⟩
  · exact ⟨u, hu, .more h' hu⟩
theorem top_of {l : LK} (hc : ¬ Cyc l) : ∀ {K : List Int}, K ≠ [] → ∃ m ∈ K, ∀ y ∈ K, ¬ Reach l m y
  | [], h => absurd rfl h
  | [a], _ => ⟨a, List.mem_cons_self, fun y hy h => by
    obtain rfl := List.mem_singleton.1 hy
    exact hc ⟨_, h⟩⟩
  | a :: b :: r, _ => by
    obtain ⟨m, hm, hmax⟩ := top_of hc (K := b :: r) (by simp)
    by_cases hma : Reach l m a
    · refine ⟨a, List.mem_cons_self, fun y hy h => ?_⟩
      rcases List.mem_cons.1 hy with rfl | hy
      · exact hc ⟨_, h⟩
      · exact hmax y hy (hma.trans h)
    · refine ⟨m, List.mem_cons_of_mem _ hm, fun y hy h => ?_⟩
      rcases List.mem_cons.1 hy with rfl | hy
      · exact hma h
      · exact hmax y hy h
theorem cyc_of {l : LK} {K : List Int} (hne : K ≠ []) (h : ∀ t ∈ K, ∃ u ∈ K, u ∈ waitedL l t) : Cyc l := by
  refine Classical.byContradiction fun hc => ?_
  obtain ⟨m, hm, hmax⟩ := top_of hc hne
  obtain ⟨u, hu, e⟩ := h m hm
  exact hmax u hu (.one e)
/-! ### cells stay -/
def Stay (H H' : Hp) : Prop := ∀ q cs ty z, H q = some (.cells cs ty z) → H' q = H q
theorem Stay.refl (H : Hp) : Stay H H := fun _ _ _ _ _ => rfl
theorem Stay.trans {H1 H2 H3 : Hp} (h : Stay H1 H2) (h' : Stay H2 H3) : Stay H1 H3 := fun q cs ty z hq => by
  have e := h q cs ty z hq
  rw [h' q cs ty z (e.trans hq), e]
theorem Ext.stay {H H' : Hp} (h : Ext H H') : Stay H H' := fun q cs ty z hq => by rw [h q _ hq, hq]
theorem Stay.cl {H H' : Hp} (h : Stay H H') {b o : Nat} {v : Value} (hc : cl H b o = some v) : cl H' b o = some v := by
  unfold Hw.cl at hc ⊢
  cases hb : H b with
  | none => rw [hb] at hc; cases hc
  | some ob =>
    rw [hb] at hc
    cases ob with
    | cells cs ty z => rw [h b cs ty z hb, hb]; exact hc
    | _ => cases hc
theorem SlAt.stay {α : Type} {f : α → List Value} {H H' : Hp} {A : Option Addr} {n : Nat} {l : List α} (h : SlAt f H A n l) (hs : Stay H H') : SlAt f H' A n l := by
  refine ⟨h.len, ?_, h.small⟩
  rcases h.cells with h' | ⟨b, o, hA, hc⟩
  · exact .inl h'
  · exact .inr ⟨b, o, hA, fun j v hj => hs.cl (hc j v hj)⟩
theorem Stay.map {H H' : Hp} {b : Nat} {es : Array MapEntry} {clock : Nat} (hb : H b = some (.map es clock)) (hq : ∀ q, q ≠ b → H' q = H q) : Stay H H' := fun q cs ty z h => hq q fun e => by subst e; rw [hb] at h; cases h
theorem MapAt.stay {k : IntKind} {H H' : Hp} {b : Nat} {kv : KV} (h : MapAt k H b kv) (hq : ∀ q, q ≠ b → H' q = H q) : Stay H H' := by
  obtain ⟨es, clock, hb, _⟩ := h
  exact Stay.map hb hq
theorem MapAt.ext {k : IntKind} {H H' : Hp} {b : Nat} {kv : KV} (h : MapAt k H b kv) (hx : Ext H H') : MapAt k H' b kv := by
  obtain ⟨es, clock, hb, he⟩ := h
  exact ⟨es, clock, hx b _ hb, he⟩
theorem MapAt.keys {k : IntKind} {H : Hp} {b : Nat} {kv : KV} (h : MapAt k H b kv) : keysD kv := by
  obtain ⟨es, clock, hb, he⟩ := h
  exact he.2.2.2
theorem ext_off {H0 H H' : Hp} {b : Nat} (h : Ext H0 H) (hb : H0 b = none) (hq : ∀ q, q ≠ b → H' q = H q) : Ext H0 H' := fun q o ho => by
  rw [hq q (fun e => by subst e; rw [hb] at ho; cases ho)]; exact h q o ho
/-! ### the map of those who wait -/
def ValOk (l : LK) (H : Hp) (t : Int) (v : Value) : Prop := ∃ A c, v = .slice A (rise (waitedL l t)).length c ∧ SlAt inC H A (rise (waitedL l t)).length (rise (waitedL l t)) ∧ (waitedL l t ≠ [] → A.isSome = true)
def KvOk (l : LK) (H : Hp) (kv : KV) : Prop := ∀ t v, (t, v) ∈ kv → ValOk l H t v
theorem KvOk.stay {l : LK} {H H' : Hp} {kv : KV} (h : KvOk l H kv) (hs : Stay H H') : KvOk l H' kv := fun t v hm => by
  obtain ⟨A, c, h1, h2, h3⟩ := h t v hm
  exact ⟨A, c, h1, h2.stay hs, h3⟩
def fullB (kv : KV) (u : Int) : Bool := match kvGet kv u with
  | some (.slice A _ _) => A.isSome
  | _ => false
theorem fullB_mem {kv : KV} {u : Int} (hd : keysD kv) (h : fullB kv u = true) : ∃ v, (u, v) ∈ kv := by
  unfold fullB at h
  cases hg : kvGet kv u with
  | none => rw [hg] at h; cases h
  | some v => exact ⟨v, (kvGet_mem hd).1 hg⟩
theorem fullB_cyc {l : LK} {H : Hp} {kv : KV} {u : Int} (hd : keysD kv) (hk : KvOk l H kv) (hr : Reach l u u) {v : Value} (hm : (u, v) ∈ kv) : fullB kv u = true := by
  obtain ⟨A, c, rfl, _, h3⟩ := hk u v hm
  unfold fullB
  rw [(kvGet_mem hd).2 hm]
  obtain ⟨w, hw, _⟩ := hr.first
  exact h3 (List.ne_nil_of_mem hw)
section
variable {H0 H : Hp} {Q : Value → Hp → Prop}
theorem c74 {A : Option Addr} {n c : Nat} {l : List Int} {f : Nat} {fa fc : Array Value} {g : Int → Bool} (hA : SlAt inC H A n l) (hf : FnOk Try.prog f)
    (hg : ∀ x ∈ l, ∀ Q : Value → Hp → Prop, Q (.bool (g x)) H → HCalls Try.prog f (fa.toList ++ [.int .i64 x] ++ fc.toList) H Q) (hq : ∀ r : Int, decide (r ≥ 0) = l.any g → Q (.int .i64 r) H) :
    HCalls Try.prog 74 [.slice A n c, .func (.func f) fa fc] H Q := by
  refine f74.ok _ _ _ _ _ _ ?_
  unfold f74
  obtain rfl := hA.len
  refine scan hA.lt (fun i H' => H' = H ∧ (l.take i).any g = false) ⟨rfl, by simp⟩ ?_ ?_
  · rintro i H next hi ⟨rfl, hI⟩ hnext
    obtain ⟨x, hx⟩ := get_of hi
    refine cndT (by simpa using hi) ⟨by simp, by simpa using hi, rd_in hA hx fun b o _ hc => ⟨x, by simpa using hc, hf, hg x (List.mem_of_getElem? hx) _ ⟨g x, rfl, cndI (fun h => ?_) (fun h => ⟨rfl, ?_⟩)⟩⟩⟩
    · exact hq _ (by rw [any_hit hx h]; simp)
    · exact hnext _ ⟨rfl, by rw [any_take_succ hx, hI, h]; rfl⟩
  · rintro H next ⟨rfl, hI⟩
    refine cndF (by simp) (hq _ ?_)
    rw [any_done hI]; rfl
theorem c63 {A : Option Addr} {n c : Nat} {l : List Int} {f : Nat} {fa fc : Array Value} {g : Int → Bool} (hA : SlAt inC H A n l) (hf : FnOk Try.prog f)
    (hg : ∀ x ∈ l, ∀ Q : Value → Hp → Prop, Q (.bool (g x)) H → HCalls Try.prog f (fa.toList ++ [.int .i64 x] ++ fc.toList) H Q) (hq : Q (.bool (l.any g)) H) : HCalls Try.prog 63 [.slice A n c, .func (.func f) fa fc] H Q := by
  refine f63.ok _ _ _ _ _ _ ?_
  unfold f63
  exact c74 hA hf hg fun r hr => ⟨r, rfl, by rw [hr]; exact hq⟩
theorem c64 {l : LK} {b o m : Nat} {kv : KV} {u : Int} (hc : cl H b o = some (.map (some m))) (hm : MapAt .i64 H m kv) (hk : KvOk l H kv) (hq : Q (.bool (fullB kv u)) H) : HCalls Try.prog 64 [.int .i64 u, .pointer (some ⟨b, o, none⟩)] H Q := by
  refine f64.ok _ _ _ ?_
  unfold f64
  refine ⟨_, hc, look_to hm ?_⟩
  unfold fullB at hq
  cases hg : kvGet kv u with
  | none => rw [hg] at hq; exact ⟨_, _, _, rfl, hq⟩
  | some v =>
    obtain ⟨A, c, rfl, _, _⟩ := hk u v ((kvGet_mem hm.keys).1 hg)
    rw [hg] at hq
    refine ⟨_, _, _, rfl, ?_⟩
    cases A <;> exact hq
theorem row_some {A : Option Addr} {c : Nat} {l : List Int} (R : RowI H0 H A c l) (h : l ≠ []) : A.isSome = true := by
  obtain ⟨_, h2, h3 | ⟨b, cs, ty, rfl, _⟩⟩ := R
  · have := List.length_pos_iff.2 h; omega
  · rfl
theorem rise_ne {l : List Int} (h : l ≠ []) : rise l ≠ [] := fun e => by
  obtain ⟨a, ha⟩ := List.exists_mem_of_ne_nil l h
  have := mem_rise.2 ha
  rw [e] at this; cases this
/-- What stays in the map of those who wait. -/
def DeadI (l : LK) (H0 H : Hp) (g m : Nat) (kv : KV) : Prop :=
  cl H g 0 = some (.map (some m)) ∧ Ext H0 H ∧ KvOk l H kv ∧ (∀ n, Reach l n n → ∃ v, (n, v) ∈ kv)
theorem c41 {A0 A1 A2 : Option Addr} {n0 c0 n1 c1 n2 c2 : Nat} {l : LK} (hl : LocksAt H A0 n0 c0 A1 n1 c1 A2 n2 c2 l) (ht : Tame l) (hr : Rising l.held)
    (hq : ∀ (b : Bool) H', (b = true ↔ Cyc l) → Ext H H' → Q (.bool b) H') : HCalls Try.prog 41 [.agg #[.slice A0 n0 c0, .slice A1 n1 c1, .slice A2 n2 c2]] H Q := by
  refine f41.ok _ _ _ _ _ _ _ _ _ ?_
  unfold f41
  refine newMap_to (k := .i64) fun m H2 hm hx2 hM => fun g hg => ?_
  have hmg : m ≠ g := fun e => by
    obtain ⟨es, clock, h, _⟩ := hM
    rw [e, hg] at h; cases h
  refine ⟨_, _, upd_at, by simp, ?_⟩
  have hgH : H g = none := hx2.none hg
  have e5 : ∀ (o1 o2 : Obj), upd g o1 (upd g o2 H2) g = some o1 := fun _ _ => upd_at
  generalize hH5 : (upd g (.cells (setR [Value.map none] 0 [Value.map (some m)]).toArray 56 (0, 0)) (upd g (.cells [Value.map none].toArray 56 (0, 0)) H2)) = H5
  have hx25 : Ext H2 H5 := by
    rw [← hH5]
    exact ext_off (ext_off (Ext.refl H2) hg fun q hq => upd_off hq) hg fun q hq => upd_off hq
  have hx5 : Ext H H5 := hx2.trans hx25
  have hc5 : cl H5 g 0 = some (.map (some m)) := by rw [← hH5, cl_cells upd_at]; rfl
  have hM5 : MapAt .i64 H5 m [] := hM.ext hx25
  clear hH5 e5
  refine c21 (hl.ext hx5) ht fun A8 c8g H7 R8 hx7 => ⟨_, _, _, rfl, ?_⟩
  have hb : (rise (allL l)).length < big := by
    refine rise_big ?_
    have t1 := ht.2.1
    have t2 := ht.2.2.1
    unfold allL big
    rw [List.length_append, List.length_map, List.length_map]; omega
  have hb' := hb
  unfold big at hb'
  refine scan (n := (rise (allL l)).length) (by omega) (fun i H' => ∃ kv, MapAt .i64 H' m kv ∧ cl H' g 0 = some (.map (some m)) ∧ Ext H H' ∧ Stay H7 H' ∧ KvOk l H' kv ∧ ∀ k t, k < i → (rise (allL l))[k]? = some t → ∃ v, (t, v) ∈ kv)
    ⟨[], hM5.ext hx7, cl_ext hx7 hc5, hx5.trans hx7, Stay.refl _, fun t v h => (by cases h), fun k t hk => by omega⟩ ?_ ?_
  · rintro i H10 next hi ⟨kv, hM, hc, hx, hs, hk, hI⟩ hnext
    obtain ⟨x, hx'⟩ := get_of hi
    refine cndT (by simpa using hi) ⟨by simp, by simpa using hi, rd_in ((R8.at hb).stay hs) hx' fun p o _ k1 => ⟨x, by simpa using k1, _, hc, c22 (hl.ext hx) ht hr fun A17 c19 H16 R17 hx16 => ⟨_, _, _, rfl, ?_, put_to (hM.ext hx16) fun H18 hM18 ho18 => ⟨rfl, hnext _ ⟨_, hM18, ?_, ?_, ?_, ?_, ?_⟩⟩⟩⟩⟩
    · unfold Hw.cl at hc
      cases hg10 : H10 g with
      | none => rw [hg10] at hc; cases hc
      | some ob => exact hx16 g ob hg10
    · exact ((hM.ext hx16).stay ho18).cl (cl_ext hx16 hc)
    · exact ext_off (hx.trans hx16) hm ho18
    · exact (hs.trans hx16.stay).trans ((hM.ext hx16).stay ho18)
    · have st := (hM.ext hx16).stay ho18
      intro t v hv
      have hg18 := (kvGet_mem hM18.keys).2 hv
      rw [kvGet_put] at hg18
      split at hg18
      · rename_i e
        subst e
        cases hg18
        exact ⟨A17, c19, rfl, (R17.at (rise_big (waited_len ht))).stay st, fun h => row_some R17 (rise_ne h)⟩
      · exact ((hk.stay hx16.stay).stay st) t v ((kvGet_mem hM.keys).1 hg18)
    · intro k t hkl ht'
      by_cases e : k = i
      · subst e
        rw [hx'] at ht'; cases ht'
        exact ⟨_, (kvGet_mem hM18.keys).1 (by rw [kvGet_put, if_pos rfl])⟩
      · obtain ⟨v, hv⟩ := hI k t (by omega) ht'
        by_cases e2 : t = x
        · subst e2
          exact ⟨_, (kvGet_mem hM18.keys).1 (by rw [kvGet_put, if_pos rfl])⟩
        · exact ⟨v, (kvGet_mem hM18.keys).1 (by rw [kvGet_put, if_neg e2]; exact (kvGet_mem hM.keys).2 hv)⟩
  · rintro H10 next ⟨kv0, hM, hc, hx, hs, hk, hI⟩
    refine cndF (by simp) ?_
    have hcy : ∀ n, Reach l n n → ∃ v, (n, v) ∈ kv0 := fun n hn => by
      obtain ⟨k, hk'⟩ := List.getElem?_of_mem (mem_rise.2 (reach_all hn))
      exact hI k n (List.getElem?_eq_some_iff.1 hk').1 hk'
    refine ⟨fun mm s H' => ∃ (b : Bool) (kv : KV), s = ((b, ()), ()) ∧ mm = (if b then kv.length + 1 else 0) ∧ MapAt .i64 H' m kv ∧ DeadI l H H' g m kv ∧ (b = false → ∀ t v, (t, v) ∈ kv → ∃ u ∈ waitedL l t, fullB kv u = true), ⟨_, true, kv0, rfl, rfl, hM, ⟨hc, hx, hk, hcy⟩, fun h => (by cases h)⟩, ?_⟩
    rintro mm s H20 ⟨b, kv, rfl, rfl, hM20, ⟨hc20, hx20, hk20, hcy20⟩, hfix⟩
    dsimp only
    cases b with
    | false =>
      refine cndF rfl ⟨_, hc20, size_to hM20 (hq _ _ ⟨fun h => ?_, fun ⟨n, hn⟩ => ?_⟩ hx20)⟩
      · have h : ((kv.length : Nat) : Int) > 0 := of_decide_eq_true h
        have hne : kv.map (·.1) ≠ [] := fun e => by
          have := congrArg List.length e
          simp at this
          subst this
          simp at h
        refine cyc_of hne fun t ht' => ?_
        obtain ⟨p, hp, rfl⟩ := List.mem_map.1 ht'
        obtain ⟨u, hu, hf⟩ := hfix rfl p.1 p.2 hp
        obtain ⟨v, hv⟩ := fullB_mem hM20.keys hf
        exact ⟨u, List.mem_map_of_mem (f := (·.1)) hv, hu⟩
      · obtain ⟨v, hv⟩ := hcy20 n hn
        have := List.length_pos_of_mem hv
        exact decide_eq_true (by omega)
    | true =>
      refine cndT rfl ⟨_, hc20, range_to hM20 fun i H24 hi hx24 hIt ho24 => ?_⟩
      have him : i ≠ m := fun e => by
        obtain ⟨es, clock, h, _⟩ := hM20
        rw [← e, hi] at h; cases h
      have hiH : H i = none := hx20.none hi
      refine ⟨fun k s H' => ∃ (b : Bool) (kv' : KV) (left : List Int), s = ((b, ()), ()) ∧ k = left.length ∧ IterAt .i64 H' i m kv' left ∧ DeadI l H H' g m kv' ∧ (b = false → kv' = kv ∧ ∀ t v, (t, v) ∈ kv → t ∉ left → ∃ u ∈ waitedL l t, fullB kv u = true) ∧ (b = true → kv'.length < kv.length),
        ⟨_, false, kv, kv.map (·.1), rfl, rfl, hIt, ⟨cl_ext hx24 hc20, hx20.trans hx24, hk20.stay hx24.stay, hcy20⟩, fun _ => ⟨rfl, fun t v hv hn => absurd (List.mem_map_of_mem (f := (·.1)) hv) hn⟩, fun h => (by cases h)⟩, ?_⟩
      rintro k s H26 ⟨b, kv', left, rfl, rfl, hIu, ⟨hc26, hx26, hk26, hcy26⟩, hb0, hb1⟩
      dsimp only
      refine jn_intro (fun J => ∀ (b' : Bool) (kv2 : KV) (left2 : List Int) H', left2.length < left.length → IterAt .i64 H' i m kv2 left2 → DeadI l H H' g m kv2 → (b' = false → kv2 = kv ∧ ∀ t v, (t, v) ∈ kv → t ∉ left2 → ∃ u ∈ waitedL l t, fullB kv u = true) → (b' = true → kv2.length < kv.length) → J b' H') (fun b' kv2 left2 H' g1 g2 g3 g4 g5 => ⟨rfl, left2.length, g1, b', kv2, left2, rfl, rfl, g2, g3, g4, g5⟩) fun J47 hJ47 => ?_
      refine jn_intro (fun J => (left = [] → J false H26) ∧ ∀ x v H', (x, v) ∈ kv' → x ∈ left → IterAt .i64 H' i m kv' (left.filter fun y => decide (y ≠ x)) → EntAt .i64 H' i m x v → (∀ q, q ≠ i → H' q = H26 q) → J true H') ⟨fun h0 => ?_, fun x v H34 hxv hxl hIt34 hEnt ho34 => ?_⟩ fun J35 hJ35 => ?_
      · refine cndF rfl ⟨rfl, ?_⟩
        subst h0
        cases b with
        | false =>
          obtain ⟨e, hdone⟩ := hb0 rfl
          subst e
          refine ⟨0, by simp, false, kv', rfl, rfl, hIu.map, ⟨hc26, hx26, hk26, hcy26⟩, fun _ t v hv => hdone t v hv (by simp)⟩
        | true =>
          have := hb1 rfl
          refine ⟨kv'.length + 1, by simp; omega, true, kv', rfl, rfl, hIu.map, ⟨hc26, hx26, hk26, hcy26⟩, fun h => (by cases h)⟩
      · have st : Stay H26 H34 := fun q cs ty z hq' => ho34 q fun e => by
          subst e
          obtain ⟨es, clock, since, seen, c0, h1, _⟩ := hIu
          rw [h1] at hq'; cases hq'
        have hx34 : Ext H H34 := ext_off hx26 hiH ho34
        have hk34 := hk26.stay st
        have hc34 := st.cl hc26
        obtain ⟨A, c, rfl, hA, hAs⟩ := hk34 x v hxv
        have hll : (left.filter fun y => decide (y ≠ x)).length < left.length := by
          refine Nat.lt_of_le_of_ne (List.length_filter_le _ _) fun e => ?_
          have := List.length_filter_eq_length_iff.1 e x hxl
          simp at this
        refine cndT rfl (entry_to hEnt ⟨x, rfl, A, _, c, rfl, c63 (g := fun u => fullB kv' u) hA (fnOk 64 rfl) (fun u _ Q' hq' => c64 hc34 hIt34.map hk34 hq') ⟨_, rfl, cndI (fun hno => ⟨_, hc34, del_to hIt34 him (by simp) fun H44 hIt44 ho44 => ?_⟩) (fun hyes => ?_)⟩⟩)
        · have st44 : Stay H34 H44 := hIt34.map.stay ho44
          have hno : (rise (waitedL l x)).any (fun u => fullB kv' u) = false := by simpa using hno
          have hd := hIu.map.keys
          refine hJ47 true (kvDel kv' x) _ H44 hll hIt44 ⟨st44.cl hc34, ext_off hx34 hm ho44, fun t v hv => hk34.stay st44 t v ((mem_kvDel hd).1 hv).1, fun n hn => ?_⟩ (fun h => by cases h) (fun _ => ?_)
          · obtain ⟨v, hv⟩ := hcy26 n hn
            refine ⟨v, (mem_kvDel hd).2 ⟨hv, fun e => ?_⟩⟩
            have e : n = x := e
            subst e
            obtain ⟨u, hu, huu⟩ := cyc_succ hn
            obtain ⟨w, hw⟩ := hcy26 u huu
            have := fullB_cyc hd hk26 huu hw
            have h1 : (rise (waitedL l n)).any (fun u => fullB kv' u) = true := List.any_eq_true.2 ⟨u, mem_rise.2 hu, this⟩
            rw [h1] at hno; cases hno
          · have h1 := kvDel_len hd hxv
            cases b with
            | false => obtain ⟨e, _⟩ := hb0 rfl; subst e; exact h1
            | true => have := hb1 rfl; omega
        · have hyes : (rise (waitedL l x)).any (fun u => fullB kv' u) = true := by simpa using hyes
          refine hJ47 b kv' _ H34 hll hIt34 ⟨hc34, hx34, hk34, hcy26⟩ (fun h => ?_) hb1
          obtain ⟨e, hdone⟩ := hb0 h
          subst e
          refine ⟨rfl, fun t v hv hn => ?_⟩
          by_cases e : t = x
          · subst e
            obtain ⟨u, hu, hf⟩ := List.any_eq_true.1 hyes
            exact ⟨u, mem_rise.1 hu, hf⟩
          · exact hdone t v hv fun hm => hn (List.mem_filter.2 ⟨hm, by simpa using e⟩)
      · refine next_to hIu him (fun h => hJ35.1 h) fun x v H' hxv hxl hIu' hEnt ho' => ?_
        obtain ⟨A, c, rfl, _, _⟩ := hk26 x v hxv
        exact ⟨x, rfl, A, _, c, rfl, hJ35.2 x _ H' hxv hxl hIu' hEnt ho'⟩
end
end Go.Proofs.Ytkbancdmhcnhjaa.Hw
