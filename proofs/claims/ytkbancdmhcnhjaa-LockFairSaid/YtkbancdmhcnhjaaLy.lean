/- Locks: back, Circle. -/
import Derived.Test.YtkbancdmhcnhjaaLx
set_option linter.unusedVariables false
set_option linter.unusedSimpArgs false
namespace Go.Proofs.Ytkbancdmhcnhjaa.Hw
open Go Go.Proofs
def rowE (l : LK) (x : Int) : List Int := rise (waitedL l x)
theorem rowE_key {l : LK} {kv : KV} (hall : ∀ t, waitedL l t ≠ [] → ∃ v, (t, v) ∈ kv) : ∀ t u, u ∈ rowE l t → t ∈ kv.map (·.1) := fun t u hu => by
  obtain ⟨v, hv⟩ := hall t (List.ne_nil_of_mem (mem_rise.1 hu))
  exact List.mem_map_of_mem (f := (·.1)) hv
theorem MapAt.off {k : IntKind} {H H' : Hp} {b : Nat} {kv : KV} (h : MapAt k H b kv) (e : H' b = H b) : MapAt k H' b kv := by
  obtain ⟨es, clock, hb, he⟩ := h
  exact ⟨es, clock, e.trans hb, he⟩
theorem MapAt.some {k : IntKind} {H : Hp} {b : Nat} {kv : KV} (h : MapAt k H b kv) : H b ≠ Option.none := by
  obtain ⟨es, clock, hb, he⟩ := h
  rw [hb]; simp
def pickIs (p : Option Int) (b : Int) (f : Bool) : Prop := match p with
  | none => f = false
  | some q => f = true ∧ b = q
section
variable {H0 H : Hp} {Q : Value → Hp → Prop}
theorem look_d {E : Int → List Int} {s x : Int} {K : List Int} {dm : KV} {m : Nat} {P : Value → Bool → Prop} (hM : MapAt .i64 H m dm) (h : DmOk E s K dm) (hk : P (.int .i64 (((distOf dm x).getD 0 : Nat) : Int)) (distOf dm x).isSome) : lookF H .i64 (some m) x (.int .i64 0) P := by
  refine look_to hM ?_
  obtain ⟨e1, e2⟩ := dm_get (u := x) h
  rw [e1, e2]; exact hk
theorem look_n {l : LK} {kv : KV} {x : Int} {mk : Nat} {P : Value → Bool → Prop} (hM : MapAt .i64 H mk kv) (hk : KvOk l H kv) (hall : ∀ t, waitedL l t ≠ [] → ∃ v, (t, v) ∈ kv) (hp : ∀ A c b, SlAt inC H A (rowE l x).length (rowE l x) → P (.slice A (rowE l x).length c) b) : lookF H .i64 (some mk) x (.slice none 0 0) P := by
  refine look_to hM ?_
  cases hg : kvGet kv x with
  | none =>
    have he : rowE l x = [] := by
      cases hw : waitedL l x with
      | nil => unfold rowE; rw [hw]; rfl
      | cons a r =>
        obtain ⟨v, hv⟩ := hall x (by rw [hw]; simp)
        rw [(kvGet_mem hM.keys).2 hv] at hg; cases hg
    have := hp none 0 false (by rw [he]; exact nilI H)
    rw [he] at this
    exact this
  | some v =>
    obtain ⟨A, c, rfl, hA, _⟩ := hk x v ((kvGet_mem hM.keys).1 hg)
    exact hp A c true hA
theorem c23 {l : LK} {mk : Nat} {kv : KV} {s : Int} (hM : MapAt .i64 H mk kv) (hk : KvOk l H kv) (hall : ∀ t, waitedL l t ≠ [] → ∃ v, (t, v) ∈ kv) (hN : kv.length ≤ 30000) (ht : Tame l)
    (hq0 : ∀ H', Ext H H' → Way (rowE l) s s [s] none → Q (.slice none 0 0) H')
    (hq1 : ∀ out A c H', Ext H H' → Way (rowE l) s s [s] (some out) → RowI H H' A c out → A.isSome = true → out.length < big → Q (.slice A out.length c) H') :
    HCalls Try.prog 23 [.map (some mk), .int .i64 s] H Q := by
  refine f23.ok _ _ ?_
  unfold f23
  have hE := rowE_key hall
  have hKl : (kv.map (·.1)).length = kv.length := List.length_map _
  generalize hK : kv.map (·.1) = K at *
  refine newMap_to (k := .i64) fun m1 H2 hm1 hx2 hM2 => put_to hM2 fun H3 hM3 ho3 => ?_
  have hx3 : Ext H H3 := ext_off hx2 hm1 ho3
  have hd3 : DmOk (rowE l) s K (kvPut [] s (.int .i64 0)) := by
    refine ⟨hM3.keys, by rw [kvGet_put, if_pos rfl], fun u v hm => ?_⟩
    have : (u, v) = (s, Value.int .i64 0) := by simpa [kvPut] using hm
    cases this
    exact ⟨.inl rfl, 0, rfl, rfl, by simp [kvPut]⟩
  have hmk1 : mk ≠ m1 := fun e => hM.some (e ▸ hm1)
  have hrl : ∀ x, (rowE l x).length < big := fun x => rise_big (waited_len ht)
  refine ⟨fun mm st H' => ∃ (b : Bool) (dm : KV), st = ((b, ()), ()) ∧ mm = (if b then msr (K.length + 1) K dm + 1 else 0) ∧ MapAt .i64 H' m1 dm ∧ DmOk (rowE l) s K dm ∧ Ext H H' ∧ (b = false → ∀ t ∈ K, s < t → ∀ u ∈ rowE l t, relaxed dm t u), ⟨_, true, _, rfl, rfl, hM3, hd3, hx3, fun h => (by cases h)⟩, ?_⟩
  rintro mm st H5 ⟨b, dm0, rfl, rfl, hM5, hd5, hx5, hfix⟩
  dsimp only
  cases b with
  | true =>
    refine cndT rfl (range_to (hM.ext hx5) fun i H8 hi hx8 hIt ho8 => ?_)
    have him : i ≠ mk := fun e => (hM.ext hx5).some (e ▸ hi)
    have him1 : i ≠ m1 := fun e => hM5.some (e ▸ hi)
    have hiH : H i = none := hx5.none hi
    rw [hK] at hIt
    refine ⟨fun k st H' => ∃ (b : Bool) (dm : KV) (left : List Int), st = ((b, ()), ()) ∧ k = left.length ∧ IterAt .i64 H' i mk kv left ∧ MapAt .i64 H' m1 dm ∧ DmOk (rowE l) s K dm ∧ Ext H H' ∧ (b = false → dm = dm0 ∧ ∀ t ∈ K, t ∉ left → s < t → ∀ u ∈ rowE l t, relaxed dm0 t u) ∧ (b = true → msr (K.length + 1) K dm < msr (K.length + 1) K dm0),
      ⟨_, false, dm0, K, rfl, rfl, hIt, hM5.ext hx8, hd5, hx5.trans hx8, fun _ => ⟨rfl, fun t h1 h2 => absurd h1 h2⟩, fun h => (by cases h)⟩, ?_⟩
    rintro k st H10 ⟨b, dm, left, rfl, rfl, hIu, hM10, hd10, hx10, hb0, hb1⟩
    dsimp only
    refine jn_intro (fun J => (left = [] → J false H10) ∧ ∀ x v H', (x, v) ∈ kv → x ∈ left → IterAt .i64 H' i mk kv (left.filter fun y => decide (y ≠ x)) → EntAt .i64 H' i mk x v → (∀ q, q ≠ i → H' q = H10 q) → J true H') ⟨fun h0 => ?_, fun x v H18 hxv hxl hIt18 hEnt ho18 => ?_⟩ fun J19 hJ19 => ?_
    · refine cndF rfl ⟨rfl, ?_⟩
      subst h0
      cases b with
      | false =>
        obtain ⟨e, hdone⟩ := hb0 rfl
        subst e
        exact ⟨0, by simp, false, dm, rfl, rfl, hM10, hd10, hx10, fun _ t h1 => hdone t h1 (by simp)⟩
      | true =>
        have := hb1 rfl
        exact ⟨msr (K.length + 1) K dm + 1, by simp; omega, true, dm, rfl, rfl, hM10, hd10, hx10, fun h => (by cases h)⟩
    · have hx18 : Ext H H18 := ext_off hx10 hiH ho18
      have hM18 : MapAt .i64 H18 m1 dm := hM10.off (ho18 m1 (Ne.symm him1))
      obtain ⟨A, c, rfl, hA, _⟩ := (hk.stay hx18.stay) x v hxv
      have hxK : x ∈ K := by rw [← hK]; exact List.mem_map_of_mem (f := (·.1)) hxv
      have hll : (left.filter fun y => decide (y ≠ x)).length < left.length := by
        refine Nat.lt_of_le_of_ne (List.length_filter_le _ _) fun e => ?_
        have := List.length_filter_eq_length_iff.1 e x hxl
        simp at this
      have hrb := hrl x
      unfold big at hrb
      have hrE : (rise (waitedL l x)).length < 1000000000000 := hrb
      refine cndT rfl (entry_to hEnt ⟨x, rfl, A, _, c, rfl, ?_⟩)
      refine loop_to (rise (waitedL l x)).length (fun j st H' => ∃ (b : Bool) (dm : KV), st = ((b, ((j : Int), ())), ()) ∧ IterAt .i64 H' i mk kv (left.filter fun y => decide (y ≠ x)) ∧ MapAt .i64 H' m1 dm ∧ DmOk (rowE l) s K dm ∧ Ext H H' ∧ SlAt inC H' A (rise (waitedL l x)).length (rise (waitedL l x)) ∧ (b = false → dm = dm0 ∧ (∀ t ∈ K, t ∉ left → s < t → ∀ u ∈ rowE l t, relaxed dm0 t u) ∧ ∀ k u, k < j → (rise (waitedL l x))[k]? = some u → s < x → relaxed dm0 x u) ∧ (b = true → msr (K.length + 1) K dm < msr (K.length + 1) K dm0))
        ⟨b, dm, rfl, hIt18, hM18, hd10, hx18, hA, fun h => ⟨(hb0 h).1, (hb0 h).2, fun k u hk => by omega⟩, hb1⟩ ?_
      rintro j st H25 next hj ⟨b, dm, rfl, hIt25, hM25, hd25, hx25, hA25, g0, g1⟩ hnext
      dsimp only
      by_cases hlt : j < (rise (waitedL l x)).length
      · obtain ⟨u, hu⟩ := get_of hlt
        have huE : u ∈ rowE l x := List.mem_of_getElem? hu
        have ej : IntKind.i64.wrap ((j : Int) + 1) = ((j + 1 : Nat) : Int) := by rw [wrap_id (by omega) (by omega)]; rfl
        refine cndT (decide_eq_true (by omega)) (jn_intro (fun J => ∀ (b' : Bool) (dm' : KV) H', IterAt .i64 H' i mk kv (left.filter fun y => decide (y ≠ x)) → MapAt .i64 H' m1 dm' → DmOk (rowE l) s K dm' → Ext H H' → SlAt inC H' A (rise (waitedL l x)).length (rise (waitedL l x)) → (b' = false → dm' = dm0 ∧ (∀ t ∈ K, t ∉ left → s < t → ∀ u ∈ rowE l t, relaxed dm0 t u) ∧ ∀ k u, k < j + 1 → (rise (waitedL l x))[k]? = some u → s < x → relaxed dm0 x u) → (b' = true → msr (K.length + 1) K dm' < msr (K.length + 1) K dm0) → J b' H') (fun b' dm' H' q1 q2 q3 q4 q5 q6 q7 => ⟨rfl, hnext _ _ hlt ⟨b', dm', by rw [ej], q1, q2, q3, q4, q5, q6, q7⟩⟩) fun J40 hJ40 => ?_)
        refine ⟨by omega, by omega, rd_in hA25 hu fun p o _ k1 => ⟨u, by simpa using k1, look_d hM25 hd25 ⟨_, rfl, look_d hM25 hd25 ⟨_, rfl, ?_⟩⟩⟩⟩
        refine jn_intro (fun J => (∀ d, s < x → distOf dm u = some d → (∀ d', distOf dm x = some d' → d + 1 < d') → J true) ∧ ((s < x → relaxed dm x u) → J false)) ⟨fun d hsx hd hlt' => cndT rfl ?_, fun hr => cndF rfl ?_⟩ fun J36 hJ36 => ?_
        · have hdl := (dm_some hd25 hd).2.1
          have hdK := dm_len hd25
          have ed : IntKind.i64.wrap ((((distOf dm u).getD 0 : Nat) : Int) + 1) = ((d + 1 : Nat) : Int) := by
            rw [hd, Option.getD_some, wrap_id (by omega) (by omega)]; rfl
          rw [ed]
          refine put_to hM25 fun H37 hM37 ho37 => ?_
          have hm := msr_put (N := K.length + 1) hd25 hdK hxK hdl hlt'
          refine hJ40 true _ H37 (hIt25.ext (ho37 i him1) (ho37 mk hmk1)) hM37 (dm_put hd25 hsx hxK huE hd hlt') (ext_off hx25 hm1 ho37) (hA25.stay (hM25.stay ho37)) (fun h => (by cases h)) (fun _ => ?_)
          cases b with
          | false => rw [← (g0 rfl).1]; exact hm
          | true => exact Nat.lt_trans hm (g1 rfl)
        · refine hJ40 b dm H25 hIt25 hM25 hd25 hx25 hA25 (fun h => ?_) g1
          obtain ⟨e, h1, h2⟩ := g0 h
          subst e
          refine ⟨rfl, h1, fun k u' hk' hu' hsx => ?_⟩
          by_cases e : k = j
          · subst e; rw [hu] at hu'; cases hu'; exact hr hsx
          · exact h2 k u' (by omega) hu' hsx
        · refine cndI (fun h1 => ?_) (fun h1 => hJ36.2 fun hsx => absurd hsx (by have := of_decide_eq_false h1; omega))
          have hsx : s < x := by have := of_decide_eq_true h1; omega
          cases hd : distOf dm u with
          | none => exact cndF rfl (hJ36.2 fun _ d hd' => by rw [hd] at hd'; cases hd')
          | some d =>
            refine cndT rfl ?_
            have hdl := (dm_some hd25 hd).2.1
            have hdK := dm_len hd25
            cases hdx : distOf dm x with
            | none => exact cndT rfl (hJ36.1 d hsx hd fun d' h => by rw [hdx] at h; cases h)
            | some d' =>
              refine cndF rfl ?_
              have hdl' := (dm_some hd25 hdx).2.1
              have ed : decide (IntKind.i64.wrap ((((some d).getD 0 : Nat) : Int) + 1) < (((some d').getD 0 : Nat) : Int)) = decide (d + 1 < d') := decide_eq_decide.2 (by rw [Option.getD_some, Option.getD_some, wrap_id (by omega) (by omega)]; omega)
              rw [ed]
              cases he : decide (d + 1 < d') with
              | true => exact hJ36.1 d hsx hd fun d2 h => by rw [hdx] at h; cases h; have := of_decide_eq_true he; omega
              | false => exact hJ36.2 fun _ d2 hd2 => by rw [hd] at hd2; cases hd2; have := of_decide_eq_false he; exact ⟨d', hdx, by omega⟩
      · obtain rfl : j = (rise (waitedL l x)).length := by omega
        refine cndF (decide_eq_false (by omega)) ⟨rfl, (left.filter fun y => decide (y ≠ x)).length, hll, b, dm, _, rfl, rfl, hIt25, hM25, hd25, hx25, fun h => ?_, g1⟩
        obtain ⟨e, h1, h2⟩ := g0 h
        refine ⟨e, fun t htK hn hst u hu => ?_⟩
        by_cases e : t = x
        · subst e
          obtain ⟨k, hk'⟩ := List.getElem?_of_mem hu
          exact h2 k u (List.getElem?_eq_some_iff.1 hk').1 hk' hst
        · exact h1 t htK (fun hm => hn (List.mem_filter.2 ⟨hm, by simpa using e⟩)) hst u hu
    · refine next_to hIu him (fun h => hJ19.1 h) fun x v H' hxv hxl hIt' hEnt ho' => ?_
      obtain ⟨A, c, rfl, _, _⟩ := hk x v hxv
      exact ⟨x, rfl, A, _, c, rfl, hJ19.2 x _ H' hxv hxl hIt' hEnt ho'⟩
  | false =>
    have hdone := dm_done hd5 hE (hfix rfl)
    have hdK := dm_len hd5
    refine cndF rfl fun g hg => ?_
    have hxg : Ext H5 (upd g (.cells [Value.int .i64 s].toArray 3 (0, 0)) H5) := Ext.new hg
    have hgH : H g = none := hx5.none hg
    have R0 : RowI H (upd g (.cells [Value.int .i64 s].toArray 3 (0, 0)) H5) (some ⟨g, 0, none⟩) 1 [s] := ⟨rfl, Nat.le_refl _, .inr ⟨g, _, 3, rfl, upd_at, Nat.le_refl _, rfl, hgH⟩⟩
    generalize (upd g (.cells [Value.int .i64 s].toArray 3 (0, 0)) H5) = H42 at hxg R0 ⊢
    refine ⟨fun m st H' => ∃ (a : Int) (out : List Int) (A : Option Addr) (c : Nat), st = (((A, out.length, c), (a, ())), ()) ∧ RowI H H' A c out ∧ A.isSome = true ∧ Ext H H' ∧ MapAt .i64 H' m1 dm0 ∧ (∀ r, Way (rowE l) s a out r → Way (rowE l) s s [s] r) ∧ (m = K.length + 2 ∨ ∃ d, dOf (rowE l) s a = some d ∧ a ≠ s ∧ m = d ∧ d < K.length + 2) ∧ out.length + m ≤ K.length + 3,
      ⟨K.length + 2, s, [s], _, 1, rfl, R0, rfl, hx5.trans hxg, hM5.ext hxg, fun r h => h, .inl rfl, by simp; omega⟩, ?_⟩
    rintro m st H44 ⟨a, out, A, c, rfl, R, hAs, hx44, hM44, hway, hm, hlen⟩
    dsimp only
    have hob : out.length < big := by unfold big; omega
    refine look_n (hM.ext hx44) (hk.stay hx44.stay) hall fun A48 c32 _ hA48 => ⟨_, _, _, rfl, ?_⟩
    have hrb := hrl a
    unfold big at hrb
    refine loop_to (rowE l a).length (fun j st H' => ∃ (b : Int) (f : Bool), st = ((b, (f, ((j : Int), ()))), ()) ∧ H' = H44 ∧ pickIs (pickM (rowE l) s ((rowE l a).take j)) b f) ⟨0, false, rfl, rfl, rfl⟩ ?_
    rintro j st H50 next hj ⟨b, f, rfl, rfl, hp⟩ hnext
    dsimp only
    by_cases hlt : j < (rowE l a).length
    · obtain ⟨u, hu⟩ := get_of hlt
      have ej : IntKind.i64.wrap ((j : Int) + 1) = ((j + 1 : Nat) : Int) := by rw [wrap_id (by omega) (by omega)]; rfl
      refine cndT (decide_eq_true (by omega)) (jn_intro (fun J => ∀ b' f', pickIs (pickM (rowE l) s ((rowE l a).take (j + 1))) b' f' → J b' f') (fun b' f' h' => ⟨rfl, hnext _ _ hlt ⟨b', f', by rw [ej], rfl, h'⟩⟩) fun J64 hJ64 => ?_)
      rw [pickM_succ hu] at hJ64
      unfold pickStep at hJ64
      refine ⟨by omega, by omega, rd_in hA48 hu fun p o _ k1 => ⟨u, by simpa using k1, look_d hM44 hd5 ⟨_, rfl, ?_⟩⟩⟩
      rw [hdone u]
      cases hd : dOf (rowE l) s u with
      | none =>
        rw [hd] at hJ64
        unfold jn
        exact cndF rfl (cndF rfl (hJ64 b f hp))
      | some d =>
        rw [hd] at hJ64
        have hge := dp_ge (dOf_some.1 hd).1
        unfold jn
        refine cndT rfl (cndT (decide_eq_true (by omega)) ?_)
        cases hpp : pickM (rowE l) s ((rowE l a).take j) with
        | none =>
          rw [hpp] at hp hJ64
          have hp : f = false := hp
          subst hp
          exact cndT rfl (cndT rfl (hJ64 u true ⟨rfl, rfl⟩))
        | some b0 =>
          rw [hpp] at hp hJ64
          obtain ⟨hf, hb⟩ : f = true ∧ b = b0 := hp
          subst hf
          subst hb
          refine cndF rfl (look_d hM44 hd5 ⟨_, rfl, ?_⟩)
          rw [hdone b]
          simp only [Option.getD_some] at hJ64 ⊢
          refine cndI (fun h => hJ64 u true ?_) (fun h => hJ64 b true ?_)
          · rw [if_pos (by have := of_decide_eq_true h; omega)]; exact ⟨rfl, rfl⟩
          · rw [if_neg (by have := of_decide_eq_false h; omega)]; exact ⟨rfl, rfl⟩
    · obtain rfl : j = (rowE l a).length := by omega
      rw [List.take_length] at hp
      refine cndF (decide_eq_false (by omega)) ?_
      obtain ⟨ps1, ps2⟩ := pick_spec (E := rowE l) (s := s) (l := rowE l a) _ (Nat.le_refl _)
      rw [List.take_length] at ps1 ps2
      cases hpp : pickM (rowE l) s (rowE l a) with
      | none =>
        rw [hpp] at hp
        have hp : f = false := hp
        subst hp
        exact cndT rfl (hq0 _ hx44 (hway _ (.stop hpp)))
      | some b0 =>
        rw [hpp] at hp
        obtain ⟨hf, hb⟩ : f = true ∧ b = b0 := hp
        subst hf
        subst hb
        refine cndF rfl (cndI (fun h => ?_) (fun h => ?_))
        · have h : b = s := by simpa using h
          subst h
          exact hq1 out A c _ hx44 (hway _ (.done hpp)) R hAs hob
        · have h : b ≠ s := by simpa using h
          obtain ⟨hbm, d', hd', hmin⟩ := ps1 b hpp
          have hdl : d' < K.length + 2 := by
            have := hdone b
            rw [hd'] at this
            have := (dm_some hd5 this).2.1
            omega
          have hdm : d' < m := by
            rcases hm with rfl | ⟨d, h1, h2, rfl, _⟩
            · omega
            · have hi := dOf_some.1 h1
              cases m with
              | zero => exact absurd hi.1 h2
              | succ d =>
                obtain ⟨v, hv, hiv⟩ := isD_step hi
                have := hmin v hv d (dOf_some.2 hiv)
                omega
          intro q hq
          refine R.push hx44 hob hq fun A' c' H' R' x' ch nw => ⟨rfl, d', hdm, b, out ++ [b], A', c', by rw [List.length_append]; rfl, R', row_some R' (by simp), x', hM44.off (Classical.byContradiction fun hne => ?_), fun r hr => hway r (.step hpp h hr), .inr ⟨d', hd', h, rfl, hdl⟩, by rw [List.length_append, List.length_singleton]; omega⟩
          rcases ch m1 hne with h' | h'
          · obtain ⟨_, _, g3 | ⟨bb, cs, ty, hAA, hbb, _⟩⟩ := R
            · rw [g3.1] at h'; obtain ⟨_, _, h'⟩ := h'; cases h'
            · obtain ⟨o, q', h'⟩ := h'
              rw [hAA] at h'
              cases h'
              obtain ⟨es, clock, hmm, _⟩ := hM44
              rw [hbb] at hmm; cases hmm
          · exact hM44.some h'
end
end Go.Proofs.Ytkbancdmhcnhjaa.Hw
