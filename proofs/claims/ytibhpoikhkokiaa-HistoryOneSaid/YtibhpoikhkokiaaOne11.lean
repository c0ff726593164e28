/- Yb HwRow Yc (joined by merge.py) -/
import Derived.Test.YtibhpoikhkokiaaOne10
import Derived.Test.YtibhpoikhkokiaaOne5
import Derived.ChangeReads
import Derived.ChangeSame
import Derived.Deep.Slices
import Derived.SizedLaws
import Derived.Test.YtibhpoikhkokiaaRows
import Derived.ProofKit
/- HistoryOne walked (c3). -/
set_option linter.unusedVariables false
set_option linter.unusedSimpArgs false
set_option linter.unusedSectionVars false
set_option maxRecDepth 20000
namespace Go.Proofs.Ytibhpoikhkokiaa.Hw
open Go Go.Proofs
section
variable {H : Hp}
/-- An array of places. -/
def ArrAt (H : Hp) (g : Nat) (f : Nat → Int) : Prop := H g = some (.cells ((List.range 201).map fun j => Value.int .i64 (f j)).toArray 3 (0, 0))
theorem ArrAt.get {g : Nat} {f : Nat → Int} {x : Int} (h : ArrAt H g f) (h0 : 0 ≤ x) (h1 : x < 201) : cl H g (0 + x.toNat * 1) = some (.int .i64 (f x.toNat)) := by
  rw [cl_cells h, Nat.zero_add, Nat.mul_one, List.getElem?_map, List.getElem?_range (by omega)]; rfl
theorem ArrAt.set {g : Nat} {f : Nat → Int} {x v : Int} {K : Hp → Prop} (h : ArrAt H g f) (h0 : 0 ≤ x) (h1 : x < 201) (hk : ∀ H', ArrAt H' g (fun j => if j = x.toNat then v else f j) → (∀ q, q ≠ g → H' q = H q) → K H') : storeF H g (0 + x.toNat * 1) [.int .i64 v] K := by
  refine ⟨_, 3, h, by simp; omega, hk _ ?_ fun q hq => upd_off hq⟩
  unfold ArrAt
  rw [upd_at]
  congr 3
  rw [Nat.zero_add, Nat.mul_one]
  unfold setR
  apply List.ext_getElem?
  intro j
  rw [List.getElem?_map]
  by_cases hj : j < 201
  · rw [List.getElem?_range hj]
    simp only [Option.map_some]
    by_cases e : j = x.toNat
    · rw [if_pos e, List.append_assoc, List.getElem?_append_right (by simp; omega), List.length_take, List.length_map, List.length_range]
      rw [show j - min x.toNat 201 = 0 by omega]
      rfl
    · rw [if_neg e, List.append_assoc]
      by_cases e2 : j < x.toNat
      · rw [List.getElem?_append_left (by simp; omega), List.getElem?_take_of_lt e2, List.getElem?_map, List.getElem?_range hj]; rfl
      · rw [List.getElem?_append_right (by simp; omega), List.length_take, List.length_map, List.length_range, List.getElem?_append_right (by simp; omega), List.getElem?_drop, List.getElem?_map]
        rw [show x.toNat + [Value.int .i64 v].length + (j - min x.toNat 201 - [Value.int .i64 v].length) = j by simp; omega, List.getElem?_range hj]; rfl
  · rw [List.getElem?_eq_none (by simp; omega), List.getElem?_eq_none (by simp; omega)]; rfl
theorem posM_snoc {o : List Int} (hn : o.Nodup) {i : Nat} {t : Int} (h : o[i]? = some t) (x : Int) : posM (o.take (i + 1)) x = if x = t then i + 1 else posM (o.take i) x := by
  have hn' : (o.take (i + 1)).Nodup := List.Pairwise.sublist (List.take_sublist _ _) hn
  by_cases e : x = t
  · rw [if_pos e, e]
    exact posM_of hn' (by rw [List.getElem?_take_of_lt (by omega)]; exact h)
  · rw [if_neg e]
    unfold posM
    rw [take_snoc h]
    have : (o.take i ++ [t]).findIdx? (fun y => y == x) = (o.take i).findIdx? (fun y => y == x) := by
      rw [List.findIdx?_append]
      have : [t].findIdx? (fun y => y == x) = none := by
        rw [List.findIdx?_eq_none_iff]
        intro y hy
        rw [List.mem_singleton.1 hy]
        have : t ≠ x := fun h => e h.symm
        simpa using this
      rw [this]
      cases (o.take i).findIdx? (fun y => y == x) <;> rfl
    rw [this]
theorem zeros : (List.replicate ((201 : Int).toNat) [Value.int .i64 0]).flatten = (List.range 201).map fun j => Value.int .i64 ((fun _ => 0 : Nat → Int) j) := by rfl
end
structure Dd where
  it : Int
  wr : Bool
structure DR where
  A : Option Addr
  c : Nat
  ds : List Dd
def ddC (d : Dd) : List Value := [.int .u8 d.it, .bool d.wr]
def drC (x : DR) : List Value := [.slice x.A x.ds.length x.c]
theorem rd_dd {H : Hp} {A : Option Addr} {n : Nat} {l : List Dd} {i : Nat} {x : Dd} (h : SlAt ddC H A n l) (hi : l[i]? = some x) {K : Nat → Nat → Prop}
    (hk : ∀ p o, A = some ⟨p, o, none⟩ → cl H p (o + i * 2) = some (.int .u8 x.it) → cl H p (o + i * 2 + 1) = some (.bool x.wr) → K p o) : onPtr A K := by
  have hlen : ∀ x ∈ l, (ddC x).length = 2 := fun x _ => rfl
  have hne : l ≠ [] := fun e => by subst e; simp at hi
  refine at_cells h.cells (flat_ne hlen (by omega) hne) fun p o hA hc => hk p o hA ?_ ?_
  · have := hc (i * 2 + 0) _ (flat_get hlen hi (by omega)); rw [Nat.add_zero] at this; exact this
  · have := hc (i * 2 + 1) _ (flat_get hlen hi (by omega)); rw [← Nat.add_assoc] at this; exact this
theorem rd_dr {H : Hp} {A : Option Addr} {n : Nat} {l : List DR} {i : Nat} {x : DR} (h : SlAt drC H A n l) (hi : l[i]? = some x) {K : Nat → Nat → Prop}
    (hk : ∀ p o, A = some ⟨p, o, none⟩ → cl H p (o + i * 1) = some (.slice x.A x.ds.length x.c) → K p o) : onPtr A K := by
  have hlen : ∀ x ∈ l, (drC x).length = 1 := fun x _ => rfl
  have hne : l ≠ [] := fun e => by subst e; simp at hi
  refine at_cells h.cells (flat_ne hlen (by omega) hne) fun p o hA hc => hk p o hA ?_
  have := hc (i * 1 + 0) _ (flat_get hlen hi (by omega)); rw [Nat.add_zero] at this; exact this
theorem Row.off {H0 H H' : Hp} {A S : Option Addr} {n c k : Nat} {vals : List Value} (R : Row H0 H A n c k vals) (ch : ∀ b, H' b ≠ H b → rowB S b ∨ H b = none) (sep : ∀ b, rowB A b → ¬ rowB S b) : Row H0 H' A n c k vals :=
  R.keep fun b hb => Classical.byContradiction fun hne => by
    rcases ch b hne with h | h
    · exact sep b hb h
    · exact (R.lt hb).1 h
theorem Row.apart {H0 H : Hp} {A S S' : Option Addr} {n c k : Nat} {vals : List Value} (R : Row H0 H A n c k vals) (nw : ∀ b, rowB S' b → rowB S b ∨ H b = none) (sep : ∀ b, rowB A b → ¬ rowB S b) : ∀ b, rowB A b → ¬ rowB S' b := fun b hb hs => by
  rcases nw b hs with h | h
  · exact sep b hb h
  · exact (R.lt hb).1 h
/-- A number of a row is set. -/
theorem RowI.set {H0 H : Hp} {A : Option Addr} {c : Nat} {L : List Int} {x v : Int} {K : Hp → Prop} (R : RowI H0 H A c L) (hx : Ext H0 H) (h0 : 0 ≤ x) (h1 : x < L.length) (hk : ∀ H', RowI H0 H' A c (L.set x.toNat v) → Ext H0 H' → (∀ b, H' b ≠ H b → rowB A b ∨ H b = none) → K H') :
    onPtr A fun b o => storeF H b (o + x.toNat * 1) [.int .i64 v] K := by
  obtain ⟨r1, r2, ⟨r3, r4⟩ | ⟨b, cs, ty, rfl, r4, r5, r6, r7⟩⟩ := R
  · omega
  · have hl : L.length ≤ cs.length := by omega
    refine onPtrI ⟨cs, ty, r4, by simp; omega, hk _ ⟨by rw [inC_len], by rw [List.length_set]; exact r2, .inr ⟨b, _, ty, rfl, upd_at, ?_, ?_, r7⟩⟩ (hx.upd r7) fun q hq => .inl ?_⟩
    · rw [setR_length (by simp; omega)]; exact r5
    · rw [Nat.zero_add, Nat.mul_one, List.length_set, Nat.mul_one]
      rw [Nat.mul_one] at r6
      apply List.ext_getElem?
      intro j
      rw [inC_get, List.getElem?_set, List.getElem?_take]
      have hcs : ∀ j, j < L.length → cs[j]? = (L[j]?).map (fun x => Value.int .i64 x) := fun j hj => by
        have : (cs.take L.length)[j]? = (L.flatMap inC)[j]? := by rw [r6]
        rw [List.getElem?_take_of_lt hj, inC_get] at this
        exact this
      by_cases hj : j < L.length
      · rw [if_pos hj]
        unfold setR
        by_cases e : x.toNat = j
        · subst e
          rw [if_pos rfl, if_pos hj, List.append_assoc, List.getElem?_append_right (by simp; omega), List.length_take]
          rw [show x.toNat - min x.toNat cs.length = 0 by omega]
          rfl
        · rw [if_neg e, ← hcs j hj, List.append_assoc]
          by_cases e2 : j < x.toNat
          · rw [List.getElem?_append_left (by simp; omega), List.getElem?_take_of_lt e2]
          · rw [List.getElem?_append_right (by simp; omega), List.length_take, List.getElem?_append_right (by simp; omega), List.getElem?_drop]
            congr 1
            simp
            omega
      · rw [if_neg hj]
        by_cases e : x.toNat = j
        · omega
        · rw [if_neg e, List.getElem?_eq_none (by omega)]; rfl
    · by_cases e : q = b
      · subst e; exact ⟨_, _, rfl⟩
      · exact absurd (upd_off e) hq
def numI (i : Nat) : Int := 1 + ((i : Int) * 7) % 13
theorem numI_go {i : Nat} (hi : i < 1000) : IntKind.i64.wrap (1 + (Int.tmod (IntKind.i64.wrap ((i : Int) * 7)) 13)) = numI i := by
  rw [wrap_id (x := (i : Int) * 7) (by omega) (by omega), Int.tmod_eq_emod_of_nonneg (by omega)]
  unfold numI
  rw [wrap_id (by omega) (by omega)]
theorem numI_inj {i j : Nat} (hi : i < 13) (hj : j < 13) (h : numI i = numI j) : i = j := by
  unfold numI at h; omega
theorem numI_in {i : Nat} : inB (numI i) = true := by
  unfold inB numI; simp; omega
theorem item_go {x : Int} (h0 : 0 ≤ x) (h1 : x < 256) : IntKind.i64.wrap (1 + (Int.tmod (IntKind.i64.wrap x) 200)) = 1 + x % 200 := by
  rw [wrap_id (x := x) (by omega) (by omega), Int.tmod_eq_emod_of_nonneg (by omega), wrap_id (by omega) (by omega)]
def wantL (i : Nat) : List Int := (List.range i).map numI
theorem wantL_succ {i : Nat} : wantL (i + 1) = wantL i ++ [numI i] := by unfold wantL; rw [List.range_succ, List.map_append]; rfl
theorem wantL_len {i : Nat} : (wantL i).length = i := by unfold wantL; simp
theorem wantL_no {i : Nat} (hi : i < 13) : numI i ∉ wantL i := fun h => by
  unfold wantL at h
  obtain ⟨j, hj, e⟩ := List.mem_map.1 h
  have hj := List.mem_range.1 hj
  have := numI_inj (by omega) hi e
  omega
theorem wantL_nodup : ∀ {i : Nat}, i ≤ 13 → (wantL i).Nodup
  | 0, _ => List.nodup_nil
  | i + 1, h => by
    rw [wantL_succ, List.nodup_append]
    refine ⟨wantL_nodup (by omega), by simp, fun a ha b hb => ?_⟩
    rw [List.mem_singleton.1 hb]
    exact fun e => wantL_no (by omega) (e ▸ ha)
def Agree (L : List Int) (f : Int → Int) : Prop := L.length = 201 ∧ ∀ x : Nat, 1 ≤ x → x < 201 → L[x]? = some (f (x : Int))
theorem Agree.set {L : List Int} {f : Int → Int} {x v : Int} (h : Agree L f) (h0 : 1 ≤ x) (h1 : x ≤ 200) : Agree (L.set x.toNat v) (fun i => if True ∧ i = x then v else f i) := by
  refine ⟨by rw [List.length_set]; exact h.1, fun y h2 h3 => ?_⟩
  rw [List.getElem?_set]
  by_cases e : x.toNat = y
  · rw [if_pos e, if_pos (by rw [h.1]; omega)]
    exact congrArg some (if_pos ⟨trivial, by omega⟩).symm
  · rw [if_neg e, h.2 y h2 h3]
    exact congrArg some (if_neg (by rintro ⟨_, e2⟩; omega)).symm
section
variable {H H' : Hp} {Q : Value → Hp → Prop} {A : Option Addr} {n c : Nat} {ll : List DR}
set_option maxHeartbeats 2000000 in
theorem c3 (hA : SlAt drC H A n ll) (hrow : ∀ x ∈ ll, SlAt ddC H x.A x.ds.length x.ds) (hby : ∀ x ∈ ll, ∀ d ∈ x.ds, 0 ≤ d.it ∧ d.it < 256) (hq : ∀ H', Ext H H' → Q (.bool true) H') : HCalls Try.prog 3 [.slice A n c] H Q := by
  refine f3.ok _ _ _ ?_
  unfold f3
  obtain rfl := hA.len
  refine cndI (fun _ => c4 fun H2 x2 => ⟨_, rfl, hq H2 x2⟩) fun h12 => ?_
  have h12 : ll.length ≤ 12 := by have := of_decide_eq_false h12; omega
  refine loop_to 201 (fun i st H' => ∃ A1 c1, st = (((A1, i, c1), ((i : Int), ())), ()) ∧ Ext H H' ∧ RowI H H' A1 c1 (List.replicate i 0)) ⟨none, 0, rfl, Ext.refl _, Row.nil⟩ ?_
  rintro i st H5 next hi ⟨A1, c1, rfl, hx5, R5⟩ hnext
  dsimp only
  by_cases hl : i < 201
  · have ei : IntKind.i64.wrap ((i : Int) + 1) = ((i + 1 : Nat) : Int) := by rw [wrap_id (by omega) (by omega)]; rfl
    refine cndT (decide_eq_true (by omega)) fun g7 hg7 => ?_
    have key := Row.push1 (w := (0 : Int)) (f := inC) (k := 1) (ty := 3) (eby := 8) (st := List.replicate i (0 : Int)) (K := fun A9 n9 c9 H10 => KeepX [some (.v (.slice A ll.length c)), some (.v (.slice none 0 0)), some (.v (.slice none 0 0))] [] ∧ next (((A9, n9, c9), (IntKind.i64.wrap ((i : Int) + 1), ())), ()) H10) (fun _ => rfl) (fun x v hv => by obtain rfl := List.mem_singleton.1 hv; rfl) (by omega) R5 hx5 (by rw [List.length_replicate]; unfold big; omega) hg7 fun A2 c2 H10 R2 x10 _ _ => ⟨rfl, ?_⟩
    · rw [List.length_replicate] at key; exact key
    · have e : List.replicate i (0 : Int) ++ [0] = List.replicate (i + 1) 0 := (List.replicate_succ' ..).symm
      rw [e] at R2 ⊢
      rw [List.length_replicate] at R2 ⊢
      exact hnext _ _ hl ⟨A2, c2, by rw [ei], x10, by unfold RowI; rw [List.length_replicate]; exact R2⟩
  obtain rfl : i = 201 := by omega
  clear hnext hl hi
  refine cndF (decide_eq_false (by omega)) ?_
  have hag0 : Agree (List.replicate 201 0) (fun _ => 0) := ⟨by simp, fun x h1 h2 => by rw [List.getElem?_replicate, if_pos h2]⟩
  refine loop_to ll.length (fun i st H' => ∃ Ah ch h Aw cw L f, st = (((Ah, h.length, ch), ((Aw, (wantL i).length, cw), ((i : Int), ()))), ()) ∧ Ext H H' ∧ Row H H' Ah h.length ch 5 (h.flatMap evC) ∧ RowI H H' Aw cw (wantL i) ∧ RowI H H' A1 c1 L ∧ Agree L f ∧ Part h none f 0 (wantL i) ∧ h.length ≤ 10 * i ∧ (∀ b, rowB Ah b → ¬ rowB Aw b) ∧ (∀ b, rowB Ah b → ¬ rowB A1 b) ∧ (∀ b, rowB Aw b → ¬ rowB A1 b))
    ⟨none, 0, [], none, 0, _, _, rfl, hx5, Row.nil, Row.nil, R5, hag0, Part.nil, Nat.le_refl _, fun b ⟨_, _, h⟩ => (by cases h), fun b ⟨_, _, h⟩ => (by cases h), fun b ⟨_, _, h⟩ => (by cases h)⟩ ?_
  rintro i st H12 next13 hi ⟨Ah, ch, h, Aw, cw, L, f, rfl, hx12, Rh, Rw, RL, hag, hP, hhl, s1, s2, s3⟩ hnext13
  dsimp only
  by_cases hil : i < ll.length
  · obtain ⟨x, hx⟩ := get_of hil
    have hxm := List.mem_of_getElem? hx
    refine cndT (decide_eq_true (by omega)) ⟨by omega, by omega, rd_dr (hA.ext hx12) hx fun q o _ k1 => ⟨x.A, x.ds.length, x.c, by simpa using k1, cndI (fun _ => c4 fun H17 x17 => ⟨_, rfl, hq H17 (hx12.trans x17)⟩) fun h8 => ⟨by omega, ?_⟩⟩⟩
    have h8 : x.ds.length ≤ 8 := by have := of_decide_eq_false h8; omega
    rw [numI_go (by omega)]
    have ei : IntKind.i64.wrap ((i : Int) + 1) = ((i + 1 : Nat) : Int) := by rw [wrap_id (by omega) (by omega)]; rfl
    generalize hnm : numI i = m
    have hPb := hP.begin (n := m) (by rw [← hnm]; exact numI_in) (by rw [← hnm]; exact wantL_no (by omega))
    intro g19 hg19
    have hwl : (wantL i).length < big := by rw [wantL_len]; unfold big; omega
    refine Row.push1 (w := m) (f := inC) (k := 1) (ty := 3) (fun _ => rfl) (fun x v hv => by obtain rfl := List.mem_singleton.1 hv; rfl) (by omega) Rw hx12 hwl hg19 fun A21 c21 H22 R21 x22 ch22 nw22 => ?_
    have Rh22 := Rh.off ch22 s1
    have RL22 : RowI H H22 A1 c1 L := Row.off RL ch22 fun b hb hw => s3 b hw hb
    have s1' := Rh.apart nw22 s1
    have s3' : ∀ b, rowB A1 b → ¬ rowB A21 b := Row.apart RL nw22 fun b hb hw => s3 b hw hb
    refine c5 ⟨_, _, _, _, _, rfl, fun g30 hg30 => ?_⟩
    refine Row.push1 (w := (⟨1, m, 0, 0, 0⟩ : Ev)) (f := evC) (k := 5) (ty := 29) evC_len evC_one (by omega) Rh22 x22 (by unfold big; omega) hg30 fun A32 c32 H33 R32 x33 ch33 nw33 => ?_
    have R21' : RowI H H33 A21 c21 (wantL i ++ [m]) := Row.off R21 ch33 fun b hb hh => s1' b hh hb
    have RL33 : RowI H H33 A1 c1 L := Row.off RL22 ch33 fun b hb hh => s2 b hh hb
    have s1'' : ∀ b, rowB A21 b → ¬ rowB A32 b := Row.apart R21 nw33 fun b hb hh => s1' b hh hb
    have s2'' : ∀ b, rowB A1 b → ¬ rowB A32 b := Row.apart RL22 nw33 fun b hb hh => s2 b hh hb
    refine loop_to x.ds.length (fun k st H' => ∃ Ah ch h L f, st = (((Ah, h.length, ch), ((k : Int), ())), ()) ∧ Ext H H' ∧ Row H H' Ah h.length ch 5 (h.flatMap evC) ∧ RowI H H' A21 c21 (wantL i ++ [m]) ∧ RowI H H' A1 c1 L ∧ Agree L f ∧ Part h (some m) f k (wantL i) ∧ h.length ≤ 10 * i + 1 + k ∧ (∀ b, rowB A21 b → ¬ rowB Ah b) ∧ (∀ b, rowB A1 b → ¬ rowB Ah b))
      ⟨A32, c32, _, L, f, rfl, x33, R32, R21', RL33, hag, hPb, by simp; omega, s1'', s2''⟩ ?_
    rintro k st H35 next36 hk ⟨Ah3, ch3, h3, L3, f3', rfl, hx35, Rh3, Rw3, RL3, hag3, hP3, hhl3, t1, t2⟩ hnext36
    dsimp only
    by_cases hkl : k < x.ds.length
    · obtain ⟨d, hd⟩ := get_of hkl
      have ek : IntKind.i64.wrap ((k : Int) + 1) = ((k + 1 : Nat) : Int) := by rw [wrap_id (by omega) (by omega)]; rfl
      have hdb := hby x hxm d (List.mem_of_getElem? hd)
      refine cndT (decide_eq_true (by omega)) (jn_intro (fun J => ∀ A' c' (h' : List Ev) L' f' H', Ext H H' → Row H H' A' h'.length c' 5 (h'.flatMap evC) → RowI H H' A21 c21 (wantL i ++ [m]) → RowI H H' A1 c1 L' → Agree L' f' → Part h' (some m) f' ((k : Int) + 1) (wantL i) → h'.length = h3.length + 1 → (∀ b, rowB A21 b → ¬ rowB A' b) → (∀ b, rowB A1 b → ¬ rowB A' b) → J A' h'.length c' H') (fun A' c' h' L' f' H' a1 a2 a3 a4 a5 a6 a7 a8 a9 => ⟨rfl, hnext36 _ _ hkl ⟨A', c', h', L', f', by rw [ek], a1, a2, a3, a4, a5, by rw [show ((k + 1 : Nat) : Int) = (k : Int) + 1 by omega]; exact a6, by omega, a8, a9⟩⟩) fun J hJ => ⟨by omega, by omega, rd_dd ((hrow x hxm).ext hx35) hd fun q o _ k1 k2 => ⟨d.it, by simpa using k1, d.wr, by simpa using k2, by omega, ?_⟩⟩)
      rw [item_go hdb.1 hdb.2]
      generalize hit : 1 + d.it % 200 = item
      have hir : 1 ≤ item ∧ item ≤ 200 := by omega
      have hiin : inB item = true := by unfold inB; simp [hir]
      have hop := fun b => hP3.op b hiin (by omega) (by omega)
      rw [ek]
      refine cndI (fun hw => ?_) fun hr => ?_
      · refine c6 ⟨_, _, _, _, _, rfl, fun g47 hg47 => ?_⟩
        refine Row.push1 (w := (⟨3, m, item, 0, ((k + 1 : Nat) : Int)⟩ : Ev)) (f := evC) (k := 5) (ty := 29) evC_len evC_one (by omega) Rh3 hx35 (by unfold big; omega) hg47 fun A49 c49 H50 R49 x50 ch50 nw50 => ?_
        have RL50 : RowI H H50 A1 c1 L3 := Row.off RL3 ch50 t2
        have Rw50 : RowI H H50 A21 c21 (wantL i ++ [m]) := Row.off Rw3 ch50 t1
        have u1 := Row.apart Rw3 nw50 t1
        have u2 := Row.apart RL3 nw50 t2
        refine ⟨by omega, by omega, RowI.set RL50 x50 (by omega) (by rw [hag3.1]; omega) fun H52 RL52 x52 ch52 => hJ A49 c49 _ _ (fun i => if True ∧ i = item then m else f3' i) H52 x52 (Row.off R49 ch52 fun b hb hh => u2 b hh hb) (Row.off Rw50 ch52 fun b hb hh => s3' b hh hb) RL52 (hag3.set hir.1 hir.2) ?_ (by simp) u1 u2⟩
        have := hop true
        simp only [if_true] at this
        rw [show ((k + 1 : Nat) : Int) = (k : Int) + 1 by omega]
        exact this
      · have hLx := hag3.2 item.toNat (by omega) (by omega)
        rw [show ((item.toNat : Nat) : Int) = item by omega] at hLx
        have SL := SlAt.mk (f := inC) (A := A1) (n := L3.length) (l := L3) rfl (Row.cells RL3) (by rw [hag3.1]; unfold huge; omega)
        refine ⟨by omega, by omega, rd_in SL hLx fun q o _ k3 => ⟨f3' item, by simpa using k3, c7 ⟨_, _, _, _, _, rfl, fun g62 hg62 => ?_⟩⟩⟩
        refine Row.push1 (w := (⟨2, m, item, f3' item, ((k + 1 : Nat) : Int)⟩ : Ev)) (f := evC) (k := 5) (ty := 29) evC_len evC_one (by omega) Rh3 hx35 (by unfold big; omega) hg62 fun A64 c64 H65 R64 x65 ch65 nw65 => ?_
        refine hJ A64 c64 _ L3 f3' H65 x65 R64 (Row.off Rw3 ch65 t1) (Row.off RL3 ch65 t2) hag3 ?_ (by simp) (Row.apart Rw3 nw65 t1) (Row.apart RL3 nw65 t2)
        have := hop false
        simp only [Bool.false_eq_true, if_false, false_and] at this
        rw [show ((k + 1 : Nat) : Int) = (k : Int) + 1 by omega]
        exact this
    · obtain rfl : k = x.ds.length := by omega
      refine cndF (decide_eq_false (by omega)) (c8 ⟨_, _, _, _, _, rfl, fun g78 hg78 => ?_⟩)
      refine Row.push1 (w := (⟨4, m, 0, 0, 0⟩ : Ev)) (f := evC) (k := 5) (ty := 29) evC_len evC_one (by omega) Rh3 hx35 (by unfold big; omega) hg78 fun A80 c80 H81 R80 x81 ch81 nw81 => ⟨rfl, hnext13 _ _ hil ⟨A80, c80, _, A21, c21, L3, f3', by rw [ei, wantL_succ, hnm], x81, R80, by rw [wantL_succ, hnm]; exact Row.off Rw3 ch81 t1, Row.off RL3 ch81 t2, hag3, by rw [wantL_succ, hnm]; exact hP3.commit, by simp; omega, fun b hb hw => Row.apart Rw3 nw81 t1 b hw hb, fun b hb hw => Row.apart RL3 nw81 t2 b hw hb, fun b hb hw => s3' b hw hb⟩⟩
  obtain rfl : i = ll.length := by omega
  refine cndF (decide_eq_false (by omega)) ?_
  have hok := hP.ok
  have hrd := hP.rd
  have hsq := hP.sq
  have hcom := hP.com
  have hv : validM h = true := by
    unfold validM
    rw [Bool.and_eq_true, decide_eq_true_eq]
    exact ⟨by omega, good_iff.2 hok⟩
  have hSh : SlAt evC H12 Ah h.length h := ⟨rfl, Rh.cells, by unfold huge; omega⟩
  have hch := Rh.2.1
  have no : ∀ {P : Prop}, validM h = false → P := fun e => by rw [hv] at e; cases e
  have hwl : (wantL ll.length).length = ll.length := wantL_len
  have hwn : (wantL ll.length).Nodup := wantL_nodup (by omega)
  have SW : SlAt inC H12 Aw (wantL ll.length).length (wantL ll.length) := ⟨rfl, Row.cells Rw, by rw [hwl]; unfold huge; omega⟩
  have hbad : (abTo h h.length || btTo h h.length) = false := by
    rw [fit_ab hok (fitsM_one hok hrd hsq []), fit_bt hok (fitsM_one hok hrd hsq [])]; rfl
  clear hnext13 hag hA hrow hby RL
  generalize hW : wantL ll.length = W at *
  refine c9 hSh hch ⟨no, fun _ hb => (by rw [hbad] at hb; cases hb), fun _ _ rs ha => ?_⟩
  obtain ⟨o, ho, hsame⟩ := order_one hok hrd hsq ha
  refine ⟨fun hn => (by rw [ho] at hn; cases hn), fun o2 ho2 A84 c84 H83 x83 So hoc => ⟨_, _, _, _, _, rfl, ?_⟩⟩
  rw [ho] at ho2
  cases ho2
  refine c10 (hSh.ext x83) hch fun H88 x88 => ⟨_, _, rfl, c11 ((hSh.ext x83).ext x88) hch fun H92 x92 => ⟨_, _, rfl, c12 (((hSh.ext x83).ext x88).ext x92) hch ⟨no, fun _ rs2 A97 c97 H96 ha2 x96 S97 _ => ⟨_, _, _, _, rfl, ?_⟩⟩⟩⟩
  have e2 := arcs_one ha ha2
  subst e2
  rw [faults_one hok hrd hsq ha, hv, fitsM_one hok hrd hsq, fitsM_one hok hrd hsq]
  have x0 := ((x83.trans x88).trans x92).trans x96
  have hS96 := hSh.ext x0
  have hol : o.length = W.length := by have := hsame.perm.length_eq; rwa [hcom] at this
  refine jn_intro (fun J => ∀ H', Ext H96 H' → J false H') (fun H103 x103 => cndF rfl ?_) fun J hJ => c13 hS96 fun H100 x100 => ⟨_, rfl, ?_⟩
  rotate_left
  · rw [hv]
    have e0 : (((o.length : Nat) : Int) != ((W.length : Nat) : Int)) = false := by rw [hol]; simp
    rw [e0]
    exact cndF rfl (cndF rfl (cndF rfl (cndF rfl (cndF rfl (cndF rfl (cndF rfl (cndF rfl (cndF rfl (hJ H100 x100)))))))))
  have hW200 : ∀ t ∈ W, 1 ≤ t ∧ t ≤ 200 := fun t ht => com_in hok (comL_mem.1 (by rw [hcom]; exact ht))
  have hx103 := x0.trans x103
  refine ⟨rfl, by decide, by decide, fun g105 hg105 => ?_⟩
  rw [zeros]
  have e106 : ArrAt (upd g105 (Obj.cells ((List.range 201).map fun j => Value.int .i64 ((fun _ => 0 : Nat → Int) j)).toArray 3 (0, 0)) H103) g105 (fun _ => 0) := upd_at
  have x106 : Ext H103 (upd g105 (Obj.cells ((List.range 201).map fun j => Value.int .i64 ((fun _ => 0 : Nat → Int) j)).toArray 3 (0, 0)) H103) := Ext.new hg105
  generalize (upd g105 (Obj.cells ((List.range 201).map fun j => Value.int .i64 ((fun _ => 0 : Nat → Int) j)).toArray 3 (0, 0)) H103) = H106 at e106 x106 ⊢
  have hWlt : W.length < 4611686018427387904 := by omega
  have e201 : (201 : Int).toNat = 201 := rfl
  refine scan hWlt (fun i H' => Ext H103 H' ∧ ArrAt H' g105 (fun j => (posM (W.take i) (j : Int) : Nat))) ⟨x106, e106⟩ (fun i H108 next2 hi2 hI hnext2 => ?_) (fun H108 next2 hI => ?_)
  · obtain ⟨hx108, hAr⟩ := hI
    obtain ⟨t, ht⟩ := get_of hi2
    have htm := hW200 t (List.mem_of_getElem? ht)
    have ew : IntKind.i64.wrap ((i : Int) + 1) = ((i + 1 : Nat) : Int) := by rw [wrap_id (by omega) (by omega)]; rfl
    dsimp only
    refine cndT (decide_eq_true (by omega)) ⟨by omega, by omega, rd_in (SW.ext (hx103.trans hx108)) ht fun q o' _ k1 => ⟨t, by simpa using k1, by omega, by show t < ((201 : Nat) : Int); omega, ArrAt.set hAr (by omega) (by omega) fun H112 e112 f112 => ⟨rfl, hnext2 H112 ⟨fun q ob hq' => ?_, ?_⟩⟩⟩⟩
    · rw [f112 q fun e => by rw [e, hg105] at hq'; cases hq']
      exact hx108 q ob hq'
    · unfold ArrAt at e112 ⊢
      rw [e112]
      congr 4
      funext j
      show Value.int .i64 (if j = t.toNat then IntKind.i64.wrap ((i : Int) + 1) else ((posM (W.take i) (j : Int) : Nat) : Int)) = Value.int .i64 ((posM (W.take (i + 1)) (j : Int) : Nat) : Int)
      rw [ew, posM_snoc hwn ht]
      by_cases ej : j = t.toNat
      · rw [if_pos ej, if_pos (by omega)]
      · rw [if_neg ej, if_neg (by omega)]
  obtain ⟨hx108, hAr⟩ := hI
  rw [List.take_length] at hAr
  dsimp only
  refine cndF (decide_eq_false (by omega)) ?_
  have So108 := So.ext ((((x88.trans x92).trans x96).trans x103).trans hx108)
  refine scan (n := o.length) (by omega) (fun i H' => H' = H108) rfl (fun i H114 next3 hi3 hI hnext3 => ?_) (fun H114 next3 hI => ?_)
  · obtain rfl := hI
    obtain ⟨t, ht⟩ := get_of hi3
    have htW : t ∈ W := by rw [← hcom]; exact (hsame.2.2 t).1 (List.mem_of_getElem? ht)
    have htm := hW200 t htW
    have hpos : ((posM W t : Nat) : Int) ≠ 0 := by
      obtain ⟨j, hj⟩ := List.getElem?_of_mem htW
      rw [posM_of hwn hj]; omega
    have ra := hAr.get (x := t) (by omega) (by omega)
    rw [show ((t.toNat : Nat) : Int) = t by omega] at ra
    dsimp only
    refine cndT (decide_eq_true (by omega)) ⟨by omega, by omega, rd_in So108 ht fun q o' _ k1 => ⟨t, by simpa using k1, ?_⟩⟩
    refine jn_intro (fun J => J false) (cndF rfl ⟨rfl, hnext3 H114 rfl⟩) fun J hJ => cndF (decide_eq_false (by omega)) (cndF (decide_eq_false (by omega)) ⟨by omega, by show t < ((201 : Nat) : Int); omega, _, ra, ?_⟩)
    rw [show (((posM W t : Nat) : Int) == 0) = false by simpa using hpos]; exact hJ
  obtain rfl := hI
  dsimp only
  refine cndF (decide_eq_false (by omega)) ?_
  refine c14 (hSh.ext (hx103.trans hx108)) hch ⟨no, fun _ rs4 A123 c123 H122 ha4 x122 S123 _ => ⟨_, _, _, _, rfl, ?_⟩⟩
  have e4 := arcs_one ha ha4
  subst e4
  have hAr122 : ArrAt H122 g105 (fun j => (posM W (j : Int) : Nat)) := x122 _ _ hAr
  refine scan S123.lt (fun i H' => H' = H122) rfl (fun i H126 next4 hi4 hI hnext4 => ?_) (fun H126 next4 hI => ?_)
  · obtain rfl := hI
    obtain ⟨x, hx⟩ := get_of hi4
    have hxm := List.mem_of_getElem? hx
    obtain ⟨_, hca, hcb, _⟩ := arc_iff.1 ((ha.2 x).1 hxm)
    have ha1 := com_in hok hca
    have hb1 := com_in hok hcb
    obtain ⟨ia, hia⟩ := List.getElem?_of_mem (comL_mem.2 hca)
    obtain ⟨ib, hib⟩ := List.getElem?_of_mem (comL_mem.2 hcb)
    have hlt := arc_place hok hrd hsq ha hxm hia hib
    rw [hcom] at hia hib
    have pa := posM_of hwn hia
    have pb := posM_of hwn hib
    have ra := hAr122.get (x := x.a) (by omega) (by omega)
    have rb := hAr122.get (x := x.b) (by omega) (by omega)
    rw [show ((x.a.toNat : Nat) : Int) = x.a by omega] at ra
    rw [show ((x.b.toNat : Nat) : Int) = x.b by omega] at rb
    have la : x.a < ((201 : Nat) : Int) := by omega
    have lb : x.b < ((201 : Nat) : Int) := by omega
    dsimp only
    refine cndT (decide_eq_true (by omega)) ⟨by omega, by omega, rd_ar S123 hx fun q o' _ k1 k2 k3 k4 => ⟨x.a, by simpa using k1, x.b, by simpa using k2, x.kind, by simpa using k3, x.item, by simpa using k4, by omega, la, _, ra, by omega, lb, _, rb, cndF (decide_eq_false (by omega)) ⟨rfl, hnext4 H126 rfl⟩⟩⟩
  obtain rfl := hI
  dsimp only
  exact cndF (decide_eq_false (by omega)) (jn_intro (fun J => ∀ H', Ext H H' → J true H') (fun H' hx => hq H' hx) fun J hJ => cndT rfl (c4 fun H136 x136 => ⟨_, rfl, hJ H136 ((((hx12.trans hx103).trans hx108).trans x122).trans x136)⟩))
end
end Go.Proofs.Ytibhpoikhkokiaa.Hw

/- From a function's contract to its row: what came in reads as it did. -/
set_option linter.unusedVariables false
set_option linter.unusedSimpArgs false
namespace Go.Proofs.Ytibhpoikhkokiaa.Hw
open Go
section
variable {H : Type} {enc : TypeId × Value → H} {P : Program} {w w' : World} {base : Nat} {sp : Nat → Bool}
theorem mapM_len {α β : Type} {f : α → Option β} : ∀ {l : List α} {r : List β}, l.mapM f = some r → r.length = l.length
  | [], r, h => by simp at h; subst h; rfl
  | x :: l, r, h => by
    rw [List.mapM_cons] at h
    simp only [bind, Option.bind_eq_some_iff, pure, Option.some.injEq] at h
    obtain ⟨y, _, r', h2, rfl⟩ := h
    simp [mapM_len h2]
/-- A type's parts lie in the table, and a slice's elements take a cell. -/
def partsB (P : Program) (d : Option TypeDesc) : Bool := match d with
  | some (.slice e) => decide (0 < P.cellsOf e) && decide (e < P.types.size)
  | some (.pointer e) => decide (e < P.types.size)
  | some (.struct fs) => fs.toList.all fun f => decide (f.type < P.types.size)
  | some (.array _ e) => decide (e < P.types.size)
  | some (.map _ e) => decide (e < P.types.size)
  | _ => true
/-- So for all types of the table. -/
def cellsB (P : Program) : Bool := (List.range P.types.size).all fun t => partsB P (P.underlying t)
theorem cellsB_ok (h : cellsB P = true) {t : TypeId} (ht : t < P.types.size) : partsB P (P.underlying t) = true := List.all_eq_true.1 h t (List.mem_range.2 ht)
/-- The reading of all cells of a slice is one that is told where to look for more. -/
theorem trodStep_spare {r r' : TypeId → List Value → Option (DataW H × List MemPlace)} {t : TypeId} (hz : partsB P (P.underlying t) = true)
    (hr : ∀ t cs x, t < P.types.size → r t cs = some x → (∀ p ∈ x.2, sp p.block = true) → r' t cs = some x) {cs : List Value} {x : DataW H × List MemPlace}
    (h : DataW.trodStep enc P w base (fun _ => true) true r t cs = some x) (hs : ∀ p ∈ x.2, sp p.block = true) : DataW.trodStep enc P w base sp true r' t cs = some x := by
  unfold DataW.trodStep at h ⊢
  split at h
  case h_6 e a hu =>
    rw [hu] at hz
    have he : e < P.types.size := of_decide_eq_true hz
    simp only [Option.map_eq_some_iff, Option.bind_eq_some_iff] at h ⊢
    obtain ⟨y, ⟨cs', hc, hy⟩, rfl⟩ := h
    exact ⟨y, ⟨cs', hc, hr _ _ _ he hy (fun p hp => hs p (by simp [hp]))⟩, rfl⟩
  case h_8 e a len cap hu =>
    rw [hu] at hz
    simp only [partsB, Bool.and_eq_true, decide_eq_true_eq] at hz
    obtain ⟨hz0, he⟩ := hz
    simp only at h ⊢
    split at h
    · rename_i hc
      rw [if_pos hc]
      simp only [if_true, Option.map_eq_some_iff, Option.bind_eq_some_iff] at h ⊢
      obtain ⟨elems, h1, rest, h2, rfl⟩ := h
      have g : ∀ i y, ((w.cells? base (a.add (i * P.cellsOf e)) (P.cellsOf e)).bind (r e)) = some y → (y ∈ elems ∨ y ∈ rest) → ((w.cells? base (a.add (i * P.cellsOf e)) (P.cellsOf e)).bind (r' e)) = some y := fun i y hy hm => by
        simp only [Option.bind_eq_some_iff] at hy ⊢
        obtain ⟨cs', hc', hy⟩ := hy
        exact ⟨cs', hc', hr _ _ _ he hy (fun p hp => hs p (by
          simp only [List.mem_append, List.mem_flatMap]
          exact .inr ⟨y, hm, hp⟩))⟩
      refine ⟨elems, mapM_carry h1 (fun i y _ hm hy => g i y hy (.inl hm)), rest, ?_, rfl⟩
      have hl2 : rest.length = cap - len := by
        have := mapM_len h2
        simpa using this
      by_cases hspa : sp a.block = true
      · rw [if_pos hspa]
        exact mapM_carry h2 (fun j y _ hm hy => g (len + j) y hy (.inr hm))
      · rw [if_neg hspa]
        have h0 : (elems.length + rest.length) * P.cellsOf e = 0 := by
          refine Classical.byContradiction fun hne => hspa ?_
          have := hs (.cell a.block (a.off + 0)) (by
            simp only [List.mem_append]
            exact .inl (MemPlace.mem_row.2 ⟨0, by omega, rfl⟩))
          exact this
        have : rest.length = 0 := by
          rcases Nat.mul_eq_zero.1 h0 with h3 | h3 <;> omega
        rw [List.length_eq_zero_iff.1 this]
    · cases h
  all_goals first | exact h | skip
  case h_9 fs hu =>
    rw [hu] at hz
    simp only [partsB, List.all_eq_true, decide_eq_true_eq] at hz
    split at h
    · rename_i hc
      rw [if_pos hc]
      simp only [Option.map_eq_some_iff] at h ⊢
      obtain ⟨xs, h1, rfl⟩ := h
      exact ⟨xs, mapM_carry h1 (fun f y hf hm hy => hr _ _ _ (hz f hf) hy (fun p hp => hs p (by
        simp only [List.mem_flatMap]
        exact ⟨y, hm, hp⟩))), rfl⟩
    · cases h
  case h_10 n e hu =>
    rw [hu] at hz
    have he : e < P.types.size := of_decide_eq_true hz
    split at h
    · rename_i hc
      rw [if_pos hc]
      simp only [Option.map_eq_some_iff] at h ⊢
      obtain ⟨xs, h1, rfl⟩ := h
      exact ⟨xs, mapM_carry h1 (fun f y _ hm hy => hr _ _ _ he hy (fun p hp => hs p (by
        simp only [List.mem_flatMap]
        exact ⟨y, hm, hp⟩))), rfl⟩
    · cases h
  case h_14 k e b hu =>
    rw [hu] at hz
    have he : e < P.types.size := of_decide_eq_true hz
    split at h
    · rename_i es clock hm
      simp only
      split at h
      · rename_i hc
        rw [if_pos hc]
        simp only [Option.bind_eq_some_iff] at h ⊢
        obtain ⟨entries, h1, h2⟩ := h
        split at h2
        · rename_i hri
          cases h2
          refine ⟨entries, mapM_carry h1 (fun y z _ hmem hy => ?_), by rw [if_pos hri]⟩
          simp only [Option.bind_eq_some_iff] at hy ⊢
          obtain ⟨key, hk, hy⟩ := hy
          refine ⟨key, hk, ?_⟩
          split at hy
          · rename_i hf
            rw [if_pos hf]
            simp only [Option.map_eq_some_iff] at hy ⊢
            obtain ⟨u, hu2, rfl⟩ := hy
            exact ⟨u, hr _ _ _ he hu2 (fun p hp => hs p (by
              simp only [List.mem_cons, List.mem_flatMap]
              exact .inr ⟨_, hmem, hp⟩)), rfl⟩
          · cases hy
        · cases h2
      · cases h
    · cases h
theorem trod_spare (hz : cellsB P = true) : ∀ (n : Nat) (t : TypeId) (cs : List Value) (x : DataW H × List MemPlace), t < P.types.size →
    DataW.trod enc P w base (fun _ => true) true n t cs = some x → (∀ p ∈ x.2, sp p.block = true) → DataW.trod enc P w base sp true n t cs = some x := by
  intro n
  induction n with
  | zero => intro t cs x _ h; simp [DataW.trod] at h
  | succ n ih =>
    intro t cs x ht h hs
    rw [DataW.trod_step] at h ⊢
    exact trodStep_spare (cellsB_ok hz ht) ih h hs
/-- What came in reads as it did, in a world in which all that was there stays. -/
theorem trodAll_again (hz : cellsB P = true) (hh : ∀ (b : Nat) o, w.heap[b]? = some o → w'.heap[b]? = some o) : ∀ {ts : List TypeId} {vs : List Value} {ds : List (DataW H)} {ps : List MemPlace}, (∀ t ∈ ts, t < P.types.size) →
    DataW.TrodAll enc P w base (fun _ => true) true ts vs ds ps → (∀ p ∈ ps, p.block < w.heap.size) → (∀ p ∈ ps, sp p.block = true) → DataW.TrodAll enc P w' base sp true ts vs ds ps
  | [], vs, ds, ps, _, h, _, _ => by
    obtain ⟨rfl, rfl, rfl⟩ := ChangeShapes.trodAll_nil h
    rfl
  | t :: ts, vs, ds, ps, hts, h, hl, hs => by
    obtain ⟨v, vs', d, ds', a, b, rfl, rfl, rfl, ⟨n, h1⟩, h2⟩ := ChangeShapes.trodAll_cons h
    have hold : ∀ p : MemPlace, p.block < w.heap.size → w'.heap[p.block]? = w.heap[p.block]? := fun p hp => by
      rw [Array.getElem?_eq_getElem hp]
      exact hh _ _ (Array.getElem?_eq_getElem hp)
    have same : ∀ p ∈ a, w.sameAt w' p := fun p hp => by
      have := hold p (hl p (List.mem_append_left _ hp))
      cases p with
      | cell b off => unfold World.sameAt World.cell?; simp only [MemPlace.block] at this; simp only [this]
      | map b => exact this
    exact ⟨a, b, ⟨n, DataW.trod_carry n t _ _ (trod_spare hz n t _ _ (hts t List.mem_cons_self) h1 (fun p hp => hs p (List.mem_append_left _ hp))) same⟩, trodAll_again hz hh (fun t ht => hts t (List.mem_cons_of_mem _ ht)) h2 (fun p hp => hl p (List.mem_append_right _ hp)) (fun p hp => hs p (List.mem_append_right _ hp)), rfl⟩
/-- The row's word for a function that only looks, and makes new memory. -/
theorem post_look {f : Func} {s : ChangeSpec} {apart fresh handsOn again : Bool} {W W' : World} {args : Array Value} {v : Value} {ds gs : List (DataW H)} {before : List MemPlace}
    (hz : cellsB P = true) (hps : ∀ t ∈ f.params.toList, t < P.types.size) (hW : DataW.Whole enc P f.params.toList s.vars apart W args.toList ds gs before) (hsv : s.vars = []) (hargs : (s.fn H (ds ++ gs)).args = ds) (hv2 : (s.fn H (ds ++ gs)).vars = [])
    (hres : ∀ (b : Nat) (sp : Nat → Bool) (hd : Bool), DataW.TrodAll enc P W' b sp hd f.resultTypes.toList (v.resultList f.resultTypes.size) (s.fn H (ds ++ gs)).results [])
    (hh : ∀ (b : Nat) o, W.heap[b]? = some o → W'.heap[b]? = some o) (hos : W'.os = W.os) (hout : W'.output = W.output)
    (hok : ∀ (j : Nat) (t : TypeId) (r : Value), f.resultTypes[j]? = some t → (v.resultList f.resultTypes.size)[j]? = some r → Value.okWide P W' .any 0 t r) :
    s.post enc P f apart fresh handsOn again W args v W' := by
  have hlt : ∀ p ∈ before, p.block < W.heap.size := fun p hp => hW.lt p hp
  have hold : ∀ p ∈ before, (fun b => decide (b < W.heap.size)) p.block = true := fun p hp => by simpa using hlt p hp
  have hW' := hW
  obtain ⟨pa, pv, hA, hV, hpe, hnf, hnd⟩ := hW'
  rw [hsv] at hV
  obtain ⟨hgs, hpv⟩ := ChangeShapes.trodVars_none hV
  subst hpv
  rw [List.append_nil] at hpe
  subst hpe
  have ag : ∀ sp : Nat → Bool, (∀ p ∈ before, sp p.block = true) → DataW.TrodAll enc P W' 0 sp true f.params.toList args.toList (s.fn H (ds ++ gs)).args before := fun sp hsp => by
    rw [hargs]
    exact trodAll_again hz hh hps hA hlt hsp
  have av : ∀ sp : Nat → Bool, DataW.TrodVars enc P W' sp s.vars (s.fn H (ds ++ gs)).vars [] := fun sp => by
    rw [hsv, hv2]
    exact rfl
  have same : ∀ b, b < W.heap.size → W'.heap[b]? = W.heap[b]? := fun b hb => by
    rw [Array.getElem?_eq_getElem hb]; exact hh _ _ (Array.getElem?_eq_getElem hb)
  refine ⟨ds, gs, before, [], before, [], hW, hres _ _ _, ag _ hold, av _, ⟨hos, hout, fun i hi => ?_⟩, fun _ => ?_⟩
  · rw [same i hi]
    cases hx : W.heap[i]? with
    | none => rfl
    | some o =>
      cases o with
      | cells c t fr => exact ⟨rfl, rfl, rfl, fun _ _ => rfl⟩
      | map es clock => exact .inr ⟨rfl, rfl⟩
      | _ => rfl
  · refine ⟨hok, _, _, ([] ++ before) ++ [], ⟨[] ++ before, [], ChangeShapes.trodAll_append (ag _ (fun _ _ => rfl)) (hres _ _ _), av _, rfl, ?_, ?_⟩, ?_⟩
    · intro b off hp
      have hp' : MemPlace.cell b off ∈ before := by simpa using hp
      have h1 := hnf b off hp'
      unfold World.frozen? at h1 ⊢
      rw [same b (hlt _ hp')]
      exact h1
    · intro ha
      have := hnd ha
      simpa using this
    · intro p hp _
      simpa using hp
/-- The whole heap of a world. -/
def hpOf (w : World) : Hp := fun b => w.heap[b]?
theorem cl_hp {b o : Nat} {v : Value} (h : w.cell? ⟨b, o, none⟩ = some v) : cl (hpOf w) b o = some v := by
  unfold World.cell? at h
  unfold cl hpOf
  split at h
  · rename_i c _ _ hb
    simp only at hb
    rw [hb]
    simpa using h
  · cases h
/-- A datum of which no part is too large. -/
def Sz (P : Program) (t : TypeId) (d : DataW H) : Prop := ∀ n ∈ d.weights P t, n ≤ reachBytes
theorem mem_all {e : TypeId} {d : DataW H} {n : Nat} : ∀ {l : List (DataW H)}, d ∈ l → n ∈ d.weights P e → n ∈ DataW.weightsAll P e l
  | x :: r, h, hn => by
    simp only [DataW.weightsAll, List.mem_append]
    rcases List.mem_cons.1 h with h | h
    · subst h; exact .inl hn
    · exact .inr (mem_all h hn)
theorem Sz.two {t : TypeId} {f0 f1 : Field} {d0 d1 : DataW H} (ht : P.underlying t = some (.struct #[f0, f1])) (h : Sz P t (.agg [d0, d1])) : Sz P f0.type d0 ∧ Sz P f1.type d1 := by
  unfold Sz at h
  simp only [DataW.weights, ht, DataW.weightsEach, List.map_cons, List.map_nil, List.append_nil, List.mem_append] at h
  exact ⟨fun n hn => h n (.inl hn), fun n hn => h n (.inr hn)⟩
/-- A slice that came in: its cells, element by element. -/
theorem open_cells {spare : Nat → Bool} {held : Bool} {t e : TypeId} {fuel : Nat} {cs : List Value} {x : DataW H × List MemPlace} (ht : P.underlying t = some (.slice e)) (hC : 0 < P.cellsOf e) (hB : 0 < P.bytesOf e) (hsz : Sz P t x.1) (h : DataW.trod enc P w base spare held fuel t cs = some x) :
    ∃ (A : Option Addr) (n c : Nat) (f : Nat → List Value), cs = [.slice A n c] ∧ n ≤ reachBytes ∧ cellsAt (hpOf w) A ((List.range n).flatMap f) ∧ ∀ i, i < n → (f i).length = P.cellsOf e ∧ ∃ m y, Sz P e y.1 ∧ DataW.trod enc P w base spare held m e (f i) = some y := by
  rcases Go.Deep.open_slice ht h with ⟨rfl, _⟩ | ⟨a, len, cap, m, n, D, Pl, rfl, hb, hl, hm, hmm, hx, hi⟩
  · exact ⟨none, 0, 0, fun _ => [], rfl, by omega, .inl rfl, fun i hi => by omega⟩
  have hlm : len ≤ m := by rw [hmm]; split <;> omega
  have hsz' : (∀ k, k = (len + (m - len)) * P.bytesOf e → k ≤ reachBytes) ∧ ∀ i, i < len → Sz P e (D i) := by
    rw [hx] at hsz
    unfold Sz at hsz
    simp only [DataW.weights, ht, List.length_map, List.length_range, List.mem_cons, List.mem_append] at hsz
    exact ⟨fun k hk => hsz k (.inl hk), fun i hi k hk => hsz k (.inr (.inl (mem_all (List.mem_map_of_mem (f := D) (List.mem_range.2 hi)) hk)))⟩
  have hlr : len ≤ reachBytes := by
    have h1 := hsz'.1 _ rfl
    have h2 : len * 1 ≤ (len + (m - len)) * P.bytesOf e := Nat.mul_le_mul (by omega) hB
    omega
  refine ⟨some a, len, cap, fun i => (w.cells? base (a.add (i * P.cellsOf e)) (P.cellsOf e)).getD [], rfl, hlr, ?_, fun i him => ?_⟩
  rotate_left
  · obtain ⟨cs', hc, ht'⟩ := hi i (by omega)
    refine ⟨?_, n, _, hsz'.2 i him, by simp only [hc, Option.getD_some]; exact ht'⟩
    simp only [hc, Option.getD_some]
    exact (World.cells?_some hc).2.1
  by_cases h0 : len = 0
  · subst h0; exact .inl rfl
  · obtain ⟨cs0, hc0, _⟩ := hi 0 (by omega)
    have hs0 := (World.cells?_some hc0).2.2 0 hC
    have hsp : a.spot = none := by
      obtain ⟨_, hl0, hat⟩ := World.cells?_some hc0
      have h1 := hat 0 hC
      rw [Nat.zero_mul] at h1
      have h2 : (a.add 0).add 0 = a := rfl
      rw [h2, List.getElem?_eq_getElem (by omega)] at h1
      unfold World.cell? at h1
      split at h1
      · split at h1
        · cases h1
        · rename_i hn
          cases hsp : a.spot with
          | none => rfl
          | some q => rw [hsp] at hn; simp at hn
      · cases h1
    obtain ⟨b, o, q⟩ := a
    simp only at hsp
    subst hsp
    have hadd : ∀ o k, (⟨b, o, none⟩ : Addr).add k = ⟨b, o + k, none⟩ := fun o k => by
      unfold Addr.add
      by_cases hk : k = 0
      · subst hk; rfl
      · simp [hk]
    refine .inr ⟨b, o, rfl, fun j v hj => ?_⟩
    have hlen : ∀ i ∈ List.range len, ((w.cells? base ((⟨b, o, none⟩ : Addr).add (i * P.cellsOf e)) (P.cellsOf e)).getD []).length = P.cellsOf e := fun i him => by
      obtain ⟨cs', hc, _⟩ := hi i (by have := List.mem_range.1 him; omega)
      simp only [hc, Option.getD_some]
      exact (World.cells?_some hc).2.1
    have hjl : j < len * P.cellsOf e := by
      have := (List.getElem?_eq_some_iff.1 hj).1
      rw [flat_length hlen, List.length_range] at this
      exact this
    have hdm : j = j / P.cellsOf e * P.cellsOf e + j % P.cellsOf e := by
      have := Nat.div_add_mod j (P.cellsOf e)
      rw [Nat.mul_comm] at this
      exact this.symm
    have hil : j / P.cellsOf e < len := Nat.div_lt_of_lt_mul (by rw [Nat.mul_comm]; exact hjl)
    have hql : j % P.cellsOf e < P.cellsOf e := Nat.mod_lt _ hC
    rw [hdm, flat_get hlen (x := j / P.cellsOf e) (by simp [hil]) hql] at hj
    obtain ⟨cs', hc, _⟩ := hi (j / P.cellsOf e) (by omega)
    simp only [hc, Option.getD_some] at hj
    have h3 := (World.cells?_some hc).2.2 _ hql
    rw [hj, hadd, hadd] at h3
    have h4 := cl_hp h3
    rw [Nat.add_assoc, ← hdm] at h4
    exact h4
/-- A struct of two or three one-cell fields: the fields' own readings. -/
theorem open_two {spare : Nat → Bool} {held : Bool} {t : TypeId} {f0 f1 : Field} {fuel : Nat} {cs : List Value} {x : DataW H × List MemPlace} (ht : P.underlying t = some (.struct #[f0, f1])) (hc : P.cellsOf t = 2)
    (h0 : f0.offset = 0 ∧ P.cellsOf f0.type = 1) (h1 : f1.offset = 1 ∧ P.cellsOf f1.type = 1) (hsz : Sz P t x.1) (h : DataW.trod enc P w base spare held fuel t cs = some x) :
    ∃ v0 v1 n y0 y1, cs = [v0, v1] ∧ (Sz P f0.type y0.1 ∧ Sz P f1.type y1.1) ∧ DataW.trod enc P w base spare held n f0.type [v0] = some y0 ∧ DataW.trod enc P w base spare held n f1.type [v1] = some y1 := by
  obtain ⟨xs, n, _, rfl, hl, hx, hf⟩ := DataW.trod_struct ht h
  rw [hc] at hl
  match cs, hl with
  | [v0, v1], _ =>
    have e0 := hf 0 f0 rfl
    have e1 := hf 1 f1 rfl
    rw [h0.1, h0.2] at e0
    rw [h1.1, h1.2] at e1
    match xs, hx with
    | [y0, y1], _ => exact ⟨v0, v1, n, y0, y1, rfl, Sz.two ht hsz, e0, e1⟩
def chk2 (P : Program) (t a b : Nat) : Bool := Nat.beq (P.cellsOf t) 2 && (match P.underlying t with
  | some (.struct fs) => (match fs.toList with
    | [f0, f1] => Nat.beq f0.type a && Nat.beq f0.offset 0 && Nat.beq (P.cellsOf a) 1 && Nat.beq f1.type b && Nat.beq f1.offset 1 && Nat.beq (P.cellsOf b) 1
    | _ => false)
  | _ => false)
theorem opn2 {spare : Nat → Bool} {held : Bool} {t a b : Nat} {fuel : Nat} {cs : List Value} {x : DataW H × List MemPlace} (hc : chk2 P t a b = true) (hsz : Sz P t x.1) (h : DataW.trod enc P w base spare held fuel t cs = some x) :
    ∃ v0 v1 n y0 y1, cs = [v0, v1] ∧ (Sz P a y0.1 ∧ Sz P b y1.1) ∧ DataW.trod enc P w base spare held n a [v0] = some y0 ∧ DataW.trod enc P w base spare held n b [v1] = some y1 := by
  unfold chk2 at hc
  rw [Bool.and_eq_true] at hc
  obtain ⟨hc0, hc⟩ := hc
  split at hc
  · rename_i fs hu
    split at hc
    · rename_i f0 f1 hfs
      have : fs = #[f0, f1] := Array.ext' hfs
      subst this
      simp only [Bool.and_eq_true] at hc
      obtain ⟨⟨⟨⟨⟨h1, h2⟩, h3⟩, h4⟩, h5⟩, h6⟩ := hc
      cases Nat.eq_of_beq_eq_true h1
      cases Nat.eq_of_beq_eq_true h4
      exact open_two hu (Nat.eq_of_beq_eq_true hc0) ⟨Nat.eq_of_beq_eq_true h2, Nat.eq_of_beq_eq_true h3⟩ ⟨Nat.eq_of_beq_eq_true h5, Nat.eq_of_beq_eq_true h6⟩ hsz h
    · cases hc
  · cases hc
end
end Go.Proofs.Ytibhpoikhkokiaa.Hw

/- The row HistoryOne, proved: what comes in is opened (transactions of deeds). -/
set_option linter.unusedVariables false
set_option linter.unusedSimpArgs false
set_option maxRecDepth 100000
namespace Go.Proofs.Ytibhpoikhkokiaa.Hw
open Go Go.Proofs
theorem u22 : Try.prog.underlying 22 = some (.slice 26) := by kernel_rfl
theorem u26 : Try.prog.underlying 26 = some (.slice 32) := by kernel_rfl
theorem u4 : Try.prog.underlying 4 = some .bool := by kernel_rfl
theorem u5 : Try.prog.underlying 5 = some (.int .u8) := by kernel_rfl
theorem z26 : Try.prog.cellsOf 26 = 1 := by kernel_rfl
theorem z32 : Try.prog.cellsOf 32 = 2 := by kernel_rfl
theorem y26 : 0 < Try.prog.bytesOf 26 := of_decide_eq_true (by kernel_rfl)
theorem y32 : 0 < Try.prog.bytesOf 32 := of_decide_eq_true (by kernel_rfl)
theorem k32 : chk2 Try.prog 32 5 4 = true := by kernel_rfl
section
variable {X : Type} {enc : TypeId × Value → X} {w : World} {base : Nat} {spare : Nat → Bool} {held : Bool} {fuel : Nat} {cs : List Value} {x : DataW X × List MemPlace}
theorem flat_choose {α : Type} {f : Nat → List Value} {g : α → List Value} : ∀ {n : Nat}, (∀ i, i < n → ∃ a, f i = g a) → ∃ l : List α, l.length = n ∧ (List.range n).flatMap f = l.flatMap g
  | 0, _ => ⟨[], rfl, rfl⟩
  | n + 1, h => by
    obtain ⟨l, h1, h2⟩ := flat_choose (n := n) (fun i hi => h i (by omega))
    obtain ⟨a, ha⟩ := h n (by omega)
    refine ⟨l ++ [a], by simp [h1], ?_⟩
    rw [List.range_succ, List.flatMap_append, List.flatMap_append, h2]
    simp [ha]
theorem flat_chooseP {α : Type} {f : Nat → List Value} {g : α → List Value} {P : α → Prop} : ∀ {n : Nat}, (∀ i, i < n → ∃ a, f i = g a ∧ P a) → ∃ l : List α, l.length = n ∧ (List.range n).flatMap f = l.flatMap g ∧ ∀ a ∈ l, P a
  | 0, _ => ⟨[], rfl, rfl, fun a h => by cases h⟩
  | n + 1, h => by
    obtain ⟨l, h1, h2, h3⟩ := flat_chooseP (n := n) (fun i hi => h i (by omega))
    obtain ⟨a, ha, hp⟩ := h n (by omega)
    refine ⟨l ++ [a], by simp [h1], ?_, fun b hb => ?_⟩
    · rw [List.range_succ, List.flatMap_append, List.flatMap_append, h2]
      simp [ha]
    · rcases List.mem_append.1 hb with hb | hb
      · exact h3 b hb
      · rw [List.mem_singleton.1 hb]; exact hp
theorem open_deed (hsz : Sz Try.prog 32 x.1) (h : DataW.trod enc Try.prog w base spare held fuel 32 cs = some x) : ∃ d : Dd, cs = ddC d ∧ 0 ≤ d.it ∧ d.it < 256 := by
  obtain ⟨v0, v1, n, y0, y1, rfl, _, h0, h1⟩ := opn2 k32 hsz h
  obtain ⟨k, hk, _, hwf⟩ := DataW.trod_int u5 h0
  obtain ⟨b, hb, _⟩ := DataW.trod_bool u4 h1
  simp at hk hb
  have : 0 ≤ k ∧ k < 256 := by
    simp only [Lit.wf, IntKind.min, IntKind.max, IntKind.bits, IntKind.signed, Bool.and_eq_true, decide_eq_true_eq] at hwf
    simp at hwf
    omega
  exact ⟨⟨k, b⟩, by rw [hk, hb]; rfl, this⟩
theorem open_dr (hsz : Sz Try.prog 26 x.1) (h : DataW.trod enc Try.prog w base spare held fuel 26 cs = some x) : ∃ r : DR, cs = drC r ∧ SlAt ddC (hpOf w) r.A r.ds.length r.ds ∧ ∀ d ∈ r.ds, 0 ≤ d.it ∧ d.it < 256 := by
  obtain ⟨A, n, c, f, rfl, hm, hc, hf⟩ := open_cells u26 (by rw [z32]; decide) y32 hsz h
  obtain ⟨l, h1, h2, h3⟩ := flat_chooseP (g := ddC) (n := n) (f := f) (P := fun d => 0 ≤ d.it ∧ d.it < 256) fun i hi => by
    obtain ⟨_, m, y, hys, hy⟩ := hf i hi
    exact open_deed hys hy
  subst h1
  exact ⟨⟨A, c, l⟩, rfl, ⟨rfl, by rw [← h2]; exact hc, by show l.length < huge; unfold huge; unfold reachBytes at hm; omega⟩, h3⟩
theorem open_deeds (hsz : Sz Try.prog 22 x.1) (h : DataW.trod enc Try.prog w base spare held fuel 22 cs = some x) : ∃ A n c l, cs = [.slice A n c] ∧ SlAt drC (hpOf w) A n l ∧ (∀ r ∈ l, SlAt ddC (hpOf w) r.A r.ds.length r.ds) ∧ ∀ r ∈ l, ∀ d ∈ r.ds, 0 ≤ d.it ∧ d.it < 256 := by
  obtain ⟨A, n, c, f, rfl, hm, hc, hf⟩ := open_cells u22 (by rw [z26]; decide) y26 hsz h
  obtain ⟨l, h1, h2, h3⟩ := flat_chooseP (g := drC) (n := n) (f := f) (P := fun r => SlAt ddC (hpOf w) r.A r.ds.length r.ds ∧ ∀ d ∈ r.ds, 0 ≤ d.it ∧ d.it < 256) fun i hi => by
    obtain ⟨_, m, y, hys, hy⟩ := hf i hi
    exact open_dr hys hy
  exact ⟨A, n, c, l, rfl, ⟨h1.symm, by rw [← h2]; exact hc, by rw [h1]; unfold huge; unfold reachBytes at hm; omega⟩, fun r hr => (h3 r hr).1, fun r hr => (h3 r hr).2⟩
end
open Go.ChangeShapes Go.WideShapes Go.ChangeAt Go.RowKit
theorem ownK : ownKnob Try.prog.godebug = none := by kernel_rfl
theorem cellsB_prog : cellsB Try.prog = true := by kernel_rfl
/-- A Boolean result's reading. -/
theorem res_bool {X : Type} {enc : TypeId × Value → X} {W : World} (b : Nat) (sp : Nat → Bool) (hd : Bool) (x : Bool) : DataW.TrodAll enc Try.prog W b sp hd [4] [.bool x] [.lit (.bool x)] [] :=
  trodAll_mk1 ⟨1, by simp only [DataW.trod, Value.cells, u4]⟩
theorem ok_bool {W : World} (x : Bool) : Value.okWide Try.prog W .any 0 4 (.bool x) := by
  unfold Value.okWide; rw [u4]; simp only [Cell.okWide, u4]; exact trivial
theorem slice_of {P : Program} {W : World} {base : Nat} {t e : TypeId} {v : Value} {A : Option Addr} {n c : Nat} (hs : P.underlying t = some (.slice e)) (h : Value.okWide P W .any base t v) (hc : v.cells.toList = [.slice A n c]) : v = .slice A n c := by
  simp only [Value.okWide, hs, Cell.okWide] at h
  cases v <;> simp_all [Cell.ok, Value.cells]
theorem int_of {P : Program} {W : World} {base : Nat} {t : TypeId} {k k' : IntKind} {v : Value} {n : Int} (hs : P.underlying t = some (.int k)) (h : Value.okWide P W .any base t v) (hc : v.cells.toList = [.int k' n]) : v = .int k' n := by
  simp only [Value.okWide, hs, Cell.okWide] at h
  cases v <;> simp_all [Cell.ok, Value.cells]
/-- What the row wants to hear of a result that is a Boolean. -/
theorem ok_bools {W : World} {f : Func} (hf : f.resultTypes = #[4]) (x : Bool) : ∀ (j : Nat) (t : TypeId) (r : Value), f.resultTypes[j]? = some t → ((Value.bool x).resultList f.resultTypes.size)[j]? = some r → Value.okWide Try.prog W .any 0 t r := by
  intro j t r h1 h2
  rw [hf] at h1 h2
  match j with
  | 0 =>
    cases (h1 : some 4 = some t)
    cases (h2 : some (Value.bool x) = some r)
    exact ok_bool x
  | j + 1 => cases h1
end Go.Proofs.Ytibhpoikhkokiaa.Hw
namespace Go.Proofs.Ytibhpoikhkokiaa
open Go.ChangeShapes Go.WideShapes Go.ChangeAt Go.RowKit
open Hw
theorem one_lifted (os : Os) (started : os.Started) (H : Type) (enc : TypeId × Value → H) :
    ReturnsInHanded {} Try.checked os 3 .any (Rows.historyOneSpec.pre6 enc Try.prog Try.f3 Rows.historyOneRow.domain false) (Rows.historyOneSpec.post enc Try.prog Try.f3 Rows.historyOneRow.apart Rows.historyOneRow.fresh Rows.historyOneRow.handsOn Rows.historyOneRow.again) := by
  refine returnsInHanded_of_change_sized (C := Try.checked) ownK started (by kernel_rfl) Try.func3
    (ChangeSpec.witness6 (enc := enc) (C := Try.checked) false ⟨#[], #[.slice none 0 0], []⟩ 8 (by kernel_rfl) (by kernel_rfl) (by kernel_rfl) (by kernel_rfl)) ?_
  intro W base args ds gs before hval0 hW hcnd hsz0 _
  have hval : ∀ (j : Nat) t v, Try.f3.params[j]? = some t → args[j]? = some v → Value.okWide Try.prog W .any base t v := hval0
  have hsz : (DataW.weightsEach Try.prog (Try.f3.params.toList ++ Rows.historyOneSpec.plain.varTypes Try.prog) (ds ++ gs)).all (· ≤ reachBytes) = true := hsz0
  have hW' := hW
  obtain ⟨p, q, hA0, hV, rfl, hfz, hnd⟩ := hW
  have hA : DataW.TrodAll enc Try.prog W 0 (fun _ => true) true Try.f3.params.toList args.toList ds p := hA0
  rw [Try.params3] at hA hval hsz
  obtain ⟨v0, d0, rfl, rfl, h0⟩ := trodAll_one hA
  obtain ⟨rfl, rfl⟩ := trodVars_none hV
  have hs0 : Sz Try.prog 22 d0 := fun n hn => by
    have := List.all_eq_true.1 hsz n (DataW.weights_mem_each (j := 0) rfl rfl n hn)
    exact of_decide_eq_true this
  obtain ⟨fl0, e0⟩ := h0
  obtain ⟨A, n, c, l, hc0, hp0, hrow, hby⟩ := open_deeds hs0 e0
  have g0 := slice_of u22 (hval 0 22 v0 rfl rfl) hc0
  subst g0
  have key := c3 (Q := fun v H' => v = .bool true ∧ Ext (hpOf W) H') (c := c) hp0 hrow hby (fun H' hx => ⟨rfl, hx⟩) W (fun b o h => h)
  refine Calls.mono key ?_
  rintro e W' ⟨v, H', rfl, ⟨rfl, hx⟩, hh, hf, _⟩
  refine ⟨_, rfl, post_look (f := Try.f3) cellsB_prog (by rw [Try.params3]; decide) hW' rfl rfl rfl (fun b sp hd => ?_) (fun b o h => hh b o (hx b o h)) hf.1 hf.2.2.1 ?_⟩
  · exact res_bool b sp hd true
  · exact ok_bools rfl true
theorem one_holds : Rows.HistoryOneSaid :=
  OpenClaim.holds_of_wide 3 Try.f3 rfl rfl rfl rfl rfl rfl rfl ⟨rfl, rfl, rfl, rfl, rfl⟩ rfl rfl rfl rfl rfl (by kernel_rfl) Try.func3 (by kernel_rfl)
    (of_decide_eq_true (by kernel_rfl)) (by unfold Func.isWrapper; first | (rw [if_pos (by decide +kernel)]; kernel_rfl) | (rw [if_neg (by decide +kernel)]; exact ⟨rfl, rfl⟩))
    (fun os started H enc _ => one_lifted os started H enc)
end Go.Proofs.Ytibhpoikhkokiaa
