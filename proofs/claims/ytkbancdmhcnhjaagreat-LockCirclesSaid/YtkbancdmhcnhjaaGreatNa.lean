/- Locks: the reference's take, with what it leaves alone; without, wake, Free, Leave, For. -/
import Derived.Test.YtkbancdmhcnhjaaGreatMb
set_option linter.unusedVariables false
set_option linter.unusedSimpArgs false
namespace Go.Proofs.YtkbancdmhcnhjaaGreat.Hw
open Go Go.Proofs
section
variable {H0 H : Hp} {Q : Value → Hp → Prop}
theorem c42x {B0 B1 B2 : Option Addr} {d0 d1 d2 : Nat} {l : LK} {x : Lk} (o : OwnL H0 H B0 d0 B1 d1 B2 d2 l) (hs : Small l) (hq : ∀ A c H', OwnL H0 H' A c B1 d1 B2 d2 ⟨takeM l.held x, l.waits, l.inner⟩ → (∀ q, H' q ≠ H q → rowB B0 q ∨ H q = none) → (∀ q, rowB A q → rowB B0 q ∨ H q = none) → Q (.agg #[.slice A (takeM l.held x).length c, .slice B1 l.waits.length d1, .slice B2 l.inner.length d2]) H') :
    HCalls Tryz.prog 42 [.agg #[.slice B0 l.held.length d0, .slice B1 l.waits.length d1, .slice B2 l.inner.length d2], .int .i64 x.txn, .string x.thing, .bool x.share] H Q := by
  refine f42.ok _ _ _ _ _ _ _ _ _ _ _ _ ?_
  unfold f42
  have hl := o.at hs
  have hlt := hl.held.lt
  have hsb := hs.1
  unfold big at hsb
  refine loop_to l.held.length (fun i s H' => s = (((i : Int), ()), ()) ∧ H' = H ∧ ∀ k y, k < i → l.held[k]? = some y → ordX x y < 0) ⟨rfl, rfl, fun k y h => by omega⟩ ?_
  rintro i s H next hi ⟨rfl, rfl, hI⟩ hnext
  dsimp only
  refine jn_intro (fun J => (i < l.held.length → (∀ y, l.held[i]? = some y → ordX x y < 0) → J true) ∧ ((∀ y, l.held[i]? = some y → ¬ ordX x y < 0) → J false)) ⟨fun hil hlt' => ?_, fun hge => ?_⟩ fun J hJ => ?_
  · refine cndT rfl ⟨rfl, ?_⟩
    rw [show IntKind.i64.wrap ((i : Int) + 1) = ((i + 1 : Nat) : Int) by rw [wrap_id (by omega) (by omega)]; rfl]
    refine hnext _ _ hil ⟨rfl, rfl, fun k y hk hy => ?_⟩
    by_cases e : k = i
    · subst e; exact hlt' y hy
    · exact hI k y (by omega) hy
  · refine cndF rfl ?_
    have hpos := take_pos hI hge hi
    refine jn_intro (fun J => (isAtL (ordX x) l.held = true → J true) ∧ (isAtL (ordX x) l.held = false → J false)) ⟨fun hat => ?_, fun hat => ?_⟩ fun J hJ => ?_
    · refine cndT rfl ?_
      obtain ⟨y, hy, _⟩ := isAt_get hat
      rw [hpos] at hy
      have hil := (List.getElem?_eq_some_iff.1 hy).1
      have et : takeM l.held x = l.held.set i ⟨y.thing, y.txn, y.share && x.share⟩ := by
        unfold takeM; rw [if_pos hat, hpos, hy]; rfl
      have hlen : (l.held.set i ⟨y.thing, y.txn, y.share && x.share⟩).length = l.held.length := List.length_set
      rw [et] at hq
      refine jn_intro (fun J => ∀ H', OwnL H0 H' B0 d0 B1 d1 B2 d2 ⟨l.held.set i ⟨y.thing, y.txn, y.share && x.share⟩, l.waits, l.inner⟩ → (∀ q, H' q ≠ H q → rowB B0 q) → J H') (fun H' ho hch => by have := hq _ _ _ ho (fun q h => .inl (hch q h)) (fun q h => .inl h); rw [hlen] at this; exact this) fun J hJ => ?_
      have fin : ∀ s, s = (y.share && x.share) → onPtr B0 fun b o => storeF H b ((o + ((i : Int)).toNat * 3) + 2) [.bool s] fun H' => J H' := fun s hs' => by
        subst hs'
        rw [Int.toNat_natCast]
        refine Row.share o.held o.ext hy fun H' R' hx' hch => (fun (h : _ ∧ _) => hJ H' h.1 h.2) ?_
        have keep : ∀ b, H b ≠ none → ¬ rowB B0 b → H' b = H b := fun b _ hnb => Classical.byContradiction fun hne => hnb (hch b hne)
        refine ⟨?_, hch⟩
        exact ⟨hx', by rw [hlen]; exact R', o.waits.keep (fun b hb => keep b (o.waits.lt hb).1 (fun h => o.s01 b h hb)), o.inner.keep (fun b hb => keep b (o.inner.lt hb).1 (fun h => o.s02 b h hb)), o.s01, o.s02, o.s12⟩
      exact ⟨by omega, by omega, rd_lk hl.held hy fun p o' _ _ _ k3 => ⟨y.share, by simpa using k3, cndI (fun h => ⟨by omega, by omega, fin x.share (by rw [h]; rfl)⟩) (fun h => ⟨by omega, by omega, fin false (by rw [h]; rfl)⟩)⟩⟩
    · refine cndF rfl ?_
      have et : takeM l.held x = insL l.held i x := by
        unfold takeM; rw [if_neg (by rw [hat]; decide), hpos]
      rw [et] at hq
      have hlen := insL_len (x := x) hi
      have hcap := o.held.2.1
      simp only [Int.toNat_natCast, Nat.sub_zero, cut_zero]
      refine ⟨by omega, by omega, by omega, by omega, by omega, by omega, fun g hg => ?_⟩
      have hx1 : Ext H (upd g (.cells (lkC x).toArray 55 (0, 0)) H) := Ext.new hg
      have o1 := o.more hx1
      have R1 : Row H0 (upd g (.cells (lkC x).toArray 55 (0, 0)) H) (some ⟨g, 0, none⟩) 1 1 3 (lkC x) := ⟨rfl, Nat.le_refl _, .inr ⟨g, _, 55, rfl, upd_at, Nat.le_refl _, rfl, o.ext.none hg⟩⟩
      have hsrc := cells_cut (f := lkC) (k := 3) (fun _ => rfl) (l := l.held) (p := i) (m := l.held.length - i) (stay := decide (d0 = i)) o1.held.cells (fun h => by have := of_decide_eq_true h; omega) (by omega)
      rw [List.take_of_length_le (by rw [List.length_drop]; omega)] at hsrc
      refine R1.append o1.ext hsrc (by rw [lkC_len, List.length_drop]) lkC_one (by omega) (by omega) fun A2 c2 H2 R2 x2 ch2 nw2 _ => ?_
      have keep2 : ∀ b, H b ≠ none → H2 b = (upd g (.cells (lkC x).toArray 55 (0, 0)) H) b := fun b hb => Classical.byContradiction fun hne => by
        rcases (ch2 b hne).2 with ⟨o', q, e⟩ | h
        · cases e; exact hb hg
        · rw [upd_off (fun e : b = g => hb (by rw [e]; exact hg))] at h; exact hb h
      have keep2' : ∀ b, H b ≠ none → H2 b = H b := fun b hb => (keep2 b hb).trans (upd_off (fun e : b = g => hb (by rw [e]; exact hg)))
      have hR0 := (o.held.head hi).keep (fun b hb => keep2' b ((o.held.lt hb).1))
      refine hR0.append x2 R2.cells R2.1 (fun v hv => ?_) (by omega) (by omega) fun A3 c3 H3 R3 x3 ch3 nw3 _ => ?_
      · have : v ∈ ([x] ++ l.held.drop i).flatMap lkC := by rw [List.flatMap_append]; simpa [lkC] using hv
        exact lkC_one v this
      have keep3 : ∀ b, H b ≠ none → ¬ rowB B0 b → H3 b = H b := fun b hb hnb => by
        refine Eq.trans (Classical.byContradiction fun hne => ?_) (keep2' b hb)
        rcases (ch3 b hne).2 with h | h
        · exact hnb h
        · rw [keep2' b hb] at h; exact hb h
      have en : i + (1 + (l.held.length - i)) = (insL l.held i x).length := by rw [hlen]; omega
      have sepA : ∀ b, rowB A3 b → H b ≠ none → rowB B0 b := fun b h3 hb => by
        rcases nw3 b h3 with h | h
        · exact h
        · rw [keep2' b hb] at h; exact absurd h hb
      have := hq A3 c3 H3 ⟨x3, ?_, o.waits.keep (fun b hb => keep3 b (o.waits.lt hb).1 (fun h => o.s01 b h hb)), o.inner.keep (fun b hb => keep3 b (o.inner.lt hb).1 (fun h => o.s02 b h hb)), fun b h0 h1 => o.s01 b (sepA b h0 (o.waits.lt h1).1) h1, fun b h0 h1 => o.s02 b (sepA b h0 (o.inner.lt h1).1) h1, o.s12⟩ (fun q hne => Classical.byContradiction fun hn => hne (keep3 q (fun h => hn (.inr h)) (fun h => hn (.inl h)))) (fun q hq' => Classical.byContradiction fun hn => hn (.inl (sepA q hq' (fun h => hn (.inr h)))))
      · rw [← en] at this; exact this
      · rw [en, ] at R3
        dsimp only
        rw [insL_cells, List.append_assoc]
        exact R3
    · by_cases hil : i < l.held.length
      · obtain ⟨y, hy⟩ := get_of hil
        have hat : isAtL (ordX x) l.held = (decide (y.thing = x.thing) && decide (y.txn = x.txn)) := by
          unfold isAtL atZ
          rw [hpos, hy]
          have : (ordX x y = 0) ↔ (y.thing = x.thing ∧ y.txn = x.txn) := ordL_eq
          simp [this]
        refine cndT (by simpa using hil) ⟨by omega, by omega, rd_lk hl.held hy fun p o' _ k1 k2 _ => ⟨y.thing, by simpa using k1, ?_⟩⟩
        rw [str_eq]
        refine cndI (fun h => ⟨by omega, by omega, rd_lk hl.held hy fun p o' _ _ k2 _ => ⟨y.txn, by simpa using k2, ?_⟩⟩) (fun h => hJ.2 (by rw [hat, h, Bool.false_and]))
        cases he : (y.txn == x.txn) with
        | true => exact hJ.1 (by rw [hat, h, show decide (y.txn = x.txn) = true by simpa using he]; rfl)
        | false => exact hJ.2 (by rw [hat, h, show decide (y.txn = x.txn) = false by simpa using he]; rfl)
      · refine cndF (by simp; omega) (hJ.2 ?_)
        unfold isAtL atZ
        rw [hpos, List.getElem?_eq_none (by omega)]
  · by_cases hil : i < l.held.length
    · obtain ⟨y, hy⟩ := get_of hil
      have up : ∀ z, l.held[i]? = some z → z = y := fun z hz => by rw [hy] at hz; exact (Option.some.inj hz).symm
      refine cndT (by simpa using hil) ⟨by omega, by omega, rd_lk hl.held hy fun p o' _ k1 _ _ => ⟨y.thing, by simpa using k1, cndI (fun h => hJ.1 hil (fun z hz => by rw [up z hz]; exact ordX_lt.2 (.inl h))) (fun h => ⟨by omega, by omega, rd_lk hl.held hy fun p o' _ k1 _ _ => ⟨y.thing, by simpa using k1, ?_⟩⟩)⟩⟩
      rw [str_eq]
      refine cndI (fun h2 => ⟨by omega, by omega, rd_lk hl.held hy fun p o' _ _ k2 _ => ⟨y.txn, by simpa using k2, ?_⟩⟩) (fun h2 => hJ.2 (fun z hz => by rw [up z hz, ordX_lt]; rintro (h' | h'); exact absurd h' (by unfold strL; rw [h]; decide); exact of_decide_eq_false h2 h'.1))
      have h2 := of_decide_eq_true h2
      cases he : decide (y.txn < x.txn) with
      | true => exact hJ.1 hil (fun z hz => by rw [up z hz]; exact ordX_lt.2 (.inr ⟨h2, of_decide_eq_true he⟩))
      | false => exact hJ.2 (fun z hz => by rw [up z hz, ordX_lt]; rintro (h' | h'); exact absurd h' (by unfold strL; rw [h]; decide); exact of_decide_eq_false he h'.2)
    · exact cndF (by simp; omega) (hJ.2 (fun z hz => by have := (List.getElem?_eq_some_iff.1 hz).1; omega))
theorem Row.push1 {α : Type} {f : α → List Value} {k ty eby : Nat} (hf : ∀ x, (f x).length = k) (ho : ∀ x, ∀ v ∈ f x, v.oneCell' = true) (he : eby ≤ 100) {S : Option Addr} {c g : Nat} {st : List α} {w : α} {K : Option Addr → Nat → Nat → Hp → Prop} (R : Row H0 H S st.length c k (st.flatMap f)) (hx : Ext H0 H) (hs : st.length < big) (hg : H g = none)
    (hk : ∀ A' c' H', Row H0 H' A' (st ++ [w]).length c' k ((st ++ [w]).flatMap f) → Ext H0 H' → (∀ b, H' b ≠ H b → rowB S b ∨ H b = none) → (∀ b, rowB A' b → rowB S b ∨ H b = none) → K A' (st ++ [w]).length c' H') :
    appendF (upd g (.cells (f w).toArray ty (0, 0)) H) ty k eby S st.length c (some ⟨g, 0, none⟩) 1 K := by
  unfold big at hs
  have hx1 : Ext H (upd g (.cells (f w).toArray ty (0, 0)) H) := Ext.new hg
  have R1 := Row.keep R (fun b hb => ext_at hx1 (R.lt hb).1)
  have hroom : (st.length + 1) * eby ≤ 1000000000001 * 100 := Nat.mul_le_mul (by omega) he
  refine R1.append (hx.trans hx1) (new := f w) (.inr ⟨g, 0, rfl, fun j v hj => by rw [cl_cells upd_at, Nat.zero_add]; exact hj⟩) (by rw [hf]; omega) (ho w) (by omega) (by omega) fun A' c' H' R' x' ch nw _ => ?_
  have old : ∀ b, (upd g (.cells (f w).toArray ty (0, 0)) H) b = none → H b = none := fun b h => hx1.none h
  have := hk A' c' H' (by rw [List.length_append, List.flatMap_append]; simpa using R') x' (fun b hb => ?_) (fun b hb => (nw b hb).imp id (old b))
  · rw [List.length_append] at this; exact this
  · by_cases e : b = g
    · subst e; exact .inr hg
    · have : H' b ≠ (upd g (.cells (f w).toArray ty (0, 0)) H) b := by rw [upd_off e]; exact hb
      exact (ch b this).2.imp id (old b)
theorem filter_succ {α : Type} {p : α → Bool} {l : List α} {i : Nat} {x : α} (h : l[i]? = some x) : (l.take (i + 1)).filter p = (l.take i).filter p ++ (if p x then [x] else []) := by
  rw [List.take_add_one, h, List.filter_append]
  congr 1
  cases hp : p x <;> simp [hp]
theorem c51 {A : Option Addr} {n c : Nat} {ws : List Wt} {t : Int} (hA : SlAt wtC H A n ws) (hs : ws.length < big)
    (hq : ∀ B d H', Row H H' B (ws.filter fun w => !(w.txn == t)).length d 3 ((ws.filter fun w => !(w.txn == t)).flatMap wtC) → Ext H H' → Q (.slice B (ws.filter fun w => !(w.txn == t)).length d) H') :
    HCalls Tryz.prog 51 [.slice A n c, .int .i64 t] H Q := by
  refine f51.ok _ _ _ _ ?_
  unfold f51
  obtain rfl := hA.len
  have hsb := hs
  unfold big at hsb
  refine loop_to ws.length (fun i s H' => ∃ B d, s = (((B, ((ws.take i).filter fun w => !(w.txn == t)).length, d), ((i : Int), ())), ()) ∧ Row H H' B ((ws.take i).filter fun w => !(w.txn == t)).length d 3 (((ws.take i).filter fun w => !(w.txn == t)).flatMap wtC) ∧ Ext H H') ⟨none, 0, rfl, Row.nil, Ext.refl _⟩ ?_
  rintro i s H' next hi ⟨B, d, rfl, R, hx⟩ hnext
  dsimp only
  by_cases hlt : i < ws.length
  · obtain ⟨w, hw⟩ := get_of hlt
    have ei : IntKind.i64.wrap ((i : Int) + 1) = ((i + 1 : Nat) : Int) := by rw [wrap_id (by omega) (by omega)]; rfl
    have hfl := List.length_filter_le (fun w : Wt => !(w.txn == t)) (ws.take i)
    rw [List.length_take] at hfl
    refine cndT (decide_eq_true (by omega)) (jn_intro (fun J => ∀ B' d' H2, Row H H2 B' ((ws.take (i + 1)).filter fun w => !(w.txn == t)).length d' 3 (((ws.take (i + 1)).filter fun w => !(w.txn == t)).flatMap wtC) → Ext H H2 → J B' ((ws.take (i + 1)).filter fun w => !(w.txn == t)).length d' H2) (fun B' d' H2 R2 x2 => ⟨rfl, hnext _ _ hlt ⟨B', d', by rw [ei], R2, x2⟩⟩) fun J hJ => ?_)
    rw [filter_succ hw] at hJ
    refine ⟨by omega, by omega, rd_wt (hA.ext hx) hw fun p o _ k1 k2 k3 => ⟨w.txn, by simpa using k1, w.thing, by simpa using k2, w.share, by simpa using k3, cndI (fun h => fun g hg => ?_) (fun h => ?_)⟩⟩
    · have h : (!(w.txn == t)) = true := h
      rw [if_pos h] at hJ
      exact Row.pushW R hx (by unfold big; omega) hg fun A' c' H2 R2 x2 _ _ => hJ A' c' H2 R2 x2
    · have h : (!(w.txn == t)) = false := h
      rw [if_neg (by rw [h]; decide), List.append_nil] at hJ
      exact hJ B d H' R hx
  · obtain rfl : i = ws.length := by omega
    rw [List.take_length] at R ⊢
    exact cndF (decide_eq_false (by omega)) (hq B d H' R hx)
/-- How far the reference's wake has come. -/
structure WakR (H0 H : Hp) (B1 : Option Addr) (d1 : Nat) (B2 : Option Addr) (d2 : Nat) (l : LK) (s : WkS) (C0 : Option Addr) (e0 : Nat) (S : Option Addr) (s0 : Nat) (W : Option Addr) (w0 : Nat) : Prop where
  own : OwnL H0 H C0 e0 B1 d1 B2 d2 ⟨s.1, l.waits, l.inner⟩
  stay : Row H0 H S s.2.1.length s0 3 (s.2.1.flatMap wtC)
  wok : RowI H0 H W w0 s.2.2
  sep : ∀ b, rowB S b → ¬ rowB C0 b ∧ ¬ rowB B1 b ∧ ¬ rowB B2 b ∧ ¬ rowB W b
  sepW : ∀ b, rowB W b → ¬ rowB C0 b ∧ ¬ rowB B1 b ∧ ¬ rowB B2 b
theorem c52 {B0 B1 B2 : Option Addr} {d0 d1 d2 : Nat} {l : LK} (o : OwnL H0 H B0 d0 B1 d1 B2 d2 l) (hs : Small l) (hb : l.held.length + l.waits.length < big) (hr : Rising l.held)
    (hq : ∀ C0 e0 S s0 W w0 H', OwnL H0 H' C0 e0 S s0 B2 d2 ⟨(wakeM l.held l.waits).1, (wakeM l.held l.waits).2.1, l.inner⟩ → RowI H0 H' W w0 (wakeM l.held l.waits).2.2 → Q (.tuple #[.agg #[.slice C0 (wakeM l.held l.waits).1.length e0, .slice S (wakeM l.held l.waits).2.1.length s0, .slice B2 l.inner.length d2], .slice W (wakeM l.held l.waits).2.2.length w0]) H') :
    HCalls Tryz.prog 52 [.agg #[.slice B0 l.held.length d0, .slice B1 l.waits.length d1, .slice B2 l.inner.length d2]] H Q := by
  refine f52.ok _ _ _ _ _ _ _ _ _ ?_
  unfold f52
  have hok := wakeM_ok hr hs.2.2.2.1 hs.2.2.2.2
  have hbb := hb
  unfold big at hbb
  refine loop_to l.waits.length (fun i s H' => ∃ C0 e0 S s0 W w0, s = (((W, (wakeM l.held (l.waits.take i)).2.2.length, w0), ((S, (wakeM l.held (l.waits.take i)).2.1.length, s0), ((i : Int), ()))), (((C0, (wakeM l.held (l.waits.take i)).1.length, e0), ((B1, l.waits.length, d1), ((B2, l.inner.length, d2), ()))), ())) ∧ WakR H0 H' B1 d1 B2 d2 l (wakeM l.held (l.waits.take i)) C0 e0 S s0 W w0)
    ⟨B0, d0, none, 0, none, 0, rfl, o, Row.nil, Row.nil, fun b ⟨_, _, h⟩ => (by cases h), fun b ⟨_, _, h⟩ => (by cases h)⟩ ?_
  rintro i s H3 next hi ⟨C0, e0, S, s0, W, w0, rfl, I⟩ hnext
  dsimp only
  obtain ⟨k1, k2, k3, k4, k5, k6⟩ := hok i hi
  by_cases hlt : i < l.waits.length
  · obtain ⟨w, hw⟩ := get_of hlt
    have hsuc := wakeM_succ (held := l.held) hw
    have hsm : Small ⟨(wakeM l.held (l.waits.take i)).1, l.waits, l.inner⟩ := by
      unfold Small big at hs ⊢
      exact ⟨by simp only; omega, hs.2.1, hs.2.2.1, k5, hs.2.2.2.2⟩
    have ha := I.own.at hsm
    have ei : IntKind.i64.wrap ((i : Int) + 1) = ((i + 1 : Nat) : Int) := by rw [wrap_id (by omega) (by omega)]; rfl
    refine cndT (decide_eq_true (by omega)) (jn_intro (fun J => ∀ C1 e1 S' s1 W' w1 H', WakR H0 H' B1 d1 B2 d2 l (wakeM l.held (l.waits.take (i + 1))) C1 e1 S' s1 W' w1 → J W' (wakeM l.held (l.waits.take (i + 1))).2.2.length w1 S' (wakeM l.held (l.waits.take (i + 1))).2.1.length s1 C1 (wakeM l.held (l.waits.take (i + 1))).1.length e1 B1 l.waits.length d1 B2 l.inner.length d2 H') (fun C1 e1 S' s1 W' w1 H' I' => ⟨rfl, hnext _ _ hlt ⟨C1, e1, S', s1, W', w1, by rw [ei], I'⟩⟩) fun J hJ => ?_)
    rw [hsuc] at hJ
    generalize wakeM l.held (l.waits.take i) = s at *
    refine ⟨by omega, by omega, rd_wt ha.waits hw fun p o _ c1 c2 c3 => ⟨w.txn, by simpa using c1, w.thing, by simpa using c2, w.share, by simpa using c3, ?_⟩⟩
    have hst : SlAt wtC H3 S s.2.1.length s.2.1 := ⟨rfl, I.stay.cells, by unfold huge; omega⟩
    refine c41 ha hst ⟨_, rfl, cndI (fun hf => ?_) (fun hf => fun q hq => ?_)⟩
    · have est : wakeStep s w = (takeM s.1 (lockOf w), s.2.1, s.2.2 ++ [w.txn]) := by unfold wakeStep; rw [if_pos hf]
      rw [est] at hJ
      refine c42x (l := ⟨s.1, l.waits, l.inner⟩) (x := lockOf w) I.own hsm fun C1 e1 H12 ow ch nw => ⟨_, _, _, _, _, _, _, _, _, rfl, fun q hq => ?_⟩
      have keep : ∀ b, H3 b ≠ none → ¬ rowB C0 b → H12 b = H3 b := fun b hn hb => Classical.byContradiction fun hne => by
        rcases ch b hne with h | h
        · exact hb h
        · exact hn h
      have st12 := Row.keep I.stay fun b hb => keep b (I.stay.lt hb).1 (I.sep b hb).1
      have wk12 : RowI H0 H12 W w0 s.2.2 := Row.keep I.wok fun b hb => keep b (Row.lt I.wok hb).1 (I.sepW b hb).1
      have sep12 : ∀ b, rowB S b → ¬ rowB C1 b := fun b hb h => by
        rcases nw b h with h | h
        · exact (I.sep b hb).1 h
        · exact (I.stay.lt hb).1 h
      have sepW12 : ∀ b, rowB W b → ¬ rowB C1 b := fun b hb h => by
        rcases nw b h with h | h
        · exact (I.sepW b hb).1 h
        · exact (Row.lt I.wok hb).1 h
      refine RowI.push wk12 ow.ext (by unfold big; omega) hq fun A' c' H' R' x' ch' nw' => ?_
      have keep' : ∀ b, H12 b ≠ none → ¬ rowB W b → H' b = H12 b := fun b hn hb => Classical.byContradiction fun hne => by
        rcases ch' b hne with h | h
        · exact hb h
        · exact hn h
      have := hJ C1 e1 S s0 A' c' H' ⟨⟨x', ow.held.keep fun b hb => keep' b (ow.held.lt hb).1 fun h => sepW12 b h hb, ow.waits.keep fun b hb => keep' b (ow.waits.lt hb).1 fun h => (I.sepW b h).2.1 hb, ow.inner.keep fun b hb => keep' b (ow.inner.lt hb).1 fun h => (I.sepW b h).2.2 hb, ow.s01, ow.s02, ow.s12⟩, Row.keep st12 fun b hb => keep' b (st12.lt hb).1 fun h => (I.sep b hb).2.2.2 h, R', fun b hb => ⟨sep12 b hb, (I.sep b hb).2.1, (I.sep b hb).2.2.1, fun h => ?_⟩, fun b hb => ?_⟩
      · rw [List.length_append] at this; exact this
      · rcases nw' b h with h | h
        · exact (I.sep b hb).2.2.2 h
        · exact (st12.lt hb).1 h
      · rcases nw' b hb with h | h
        · exact ⟨sepW12 b h, (I.sepW b h).2.1, (I.sepW b h).2.2⟩
        · exact ⟨fun h' => (ow.held.lt h').1 h, fun h' => (ow.waits.lt h').1 h, fun h' => (ow.inner.lt h').1 h⟩
    · have est : wakeStep s w = (s.1, s.2.1 ++ [w], s.2.2) := by unfold wakeStep; rw [if_neg (by rw [hf]; decide)]
      rw [est] at hJ
      refine Row.pushW (w := w) I.stay I.own.ext (by unfold big; omega) hq fun A' c' H' R' x' ch nw => hJ C0 e0 A' c' W w0 H' ?_
      have keep : ∀ b, H3 b ≠ none → ¬ rowB S b → H' b = H3 b := fun b hn hb => Classical.byContradiction fun hne => by
        rcases ch b hne with h | h
        · exact hb h
        · exact hn h
      refine ⟨⟨x', I.own.held.keep fun b hb => keep b (I.own.held.lt hb).1 fun h => (I.sep b h).1 hb, I.own.waits.keep fun b hb => keep b (I.own.waits.lt hb).1 fun h => (I.sep b h).2.1 hb, I.own.inner.keep fun b hb => keep b (I.own.inner.lt hb).1 fun h => (I.sep b h).2.2.1 hb, I.own.s01, I.own.s02, I.own.s12⟩, R', Row.keep I.wok fun b hb => keep b (Row.lt I.wok hb).1 fun h => (I.sep b h).2.2.2 hb, fun b hb => ?_, I.sepW⟩
      rcases nw b hb with h | h
      · exact I.sep b h
      · exact ⟨fun h' => (I.own.held.lt h').1 h, fun h' => (I.own.waits.lt h').1 h, fun h' => (I.own.inner.lt h').1 h, fun h' => (Row.lt I.wok h').1 h⟩
  · obtain rfl : i = l.waits.length := by omega
    rw [List.take_length] at I ⊢
    exact cndF (decide_eq_false (by omega)) (hq C0 e0 S s0 W w0 H3 ⟨I.own.ext, I.own.held, I.stay, I.own.inner, fun b h0 h1 => (I.sep b h1).1 h0, I.own.s02, fun b h1 h2 => (I.sep b h1).2.2.1 h2⟩ I.wok)
theorem c20 {A0 A1 A2 : Option Addr} {n0 c0 n1 c1 n2 c2 : Nat} {l : LK} {txn : Int} (hl : LocksAt H A0 n0 c0 A1 n1 c1 A2 n2 c2 l) (hq : ForR H Q (forM l txn)) :
    HCalls Tryz.prog 20 [.agg #[.slice A0 n0 c0, .slice A1 n1 c1, .slice A2 n2 c2], .int .i64 txn] H Q := by
  refine f20.ok _ _ _ _ _ _ _ _ _ _ ?_
  unfold f20
  unfold forM at hq
  refine jn_intro (fun J => ∀ b, b = !(validM l && numB txn) → J b H) (fun b hb' => ?_) fun J hJ => c24 hl ⟨_, rfl, cndI (fun h => hJ true ?_) (fun h => c37 ⟨_, rfl, hJ _ ?_⟩)⟩
  rotate_left
  · have h : validM l = false := by simpa using h
    rw [h]; rfl
  · have h : validM l = true := by simpa using h
    rw [h]; rfl
  subst hb'
  refine cndI (fun hbad => ?_) (fun hgood => ?_)
  · rw [Bool.not_eq_true'] at hbad
    rw [if_neg (by rw [hbad]; decide)] at hq
    exact hq none 0 0 H (Ext.refl H) (nilI H) (Nat.le_refl _)
  have hok : (validM l && numB txn) = true := by simpa using hgood
  rw [if_pos hok] at hq
  simp only [Bool.and_eq_true] at hok
  have ht := valid_tame hok.1 hl.str
  exact c55 hl ht (valid_once hok.1) fun A c H' R hx' => ⟨_, _, _, rfl, hq A _ c H' hx' (R.at (rise_big (waited_len ht))) R.2.1⟩
end
end Go.Proofs.YtkbancdmhcnhjaaGreat.Hw
