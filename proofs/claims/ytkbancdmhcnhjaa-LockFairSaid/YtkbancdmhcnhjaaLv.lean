/- Locks: wake. -/
import Derived.Test.YtkbancdmhcnhjaaLu
set_option linter.unusedVariables false
set_option linter.unusedSimpArgs false
namespace Go.Proofs.Ytkbancdmhcnhjaa.Hw
open Go Go.Proofs
abbrev WkS := List Lk × List Wt × List Int
def wakeStep (s : WkS) (w : Wt) : WkS := if freeM s.1 s.2.1 w.txn w.thing w.share then (takeM s.1 (lockOf w), s.2.1, s.2.2 ++ [w.txn]) else (s.1, s.2.1 ++ [w], s.2.2)
def wakeM (held : List Lk) (ws : List Wt) : WkS := ws.foldl wakeStep (held, [], [])
theorem rising_pair {l : List Lk} : Rising l ↔ l.Pairwise ltL := by
  rw [List.pairwise_iff_getElem]
  constructor
  · intro h i j hi hj hij
    exact h i j _ _ hij (List.getElem?_eq_getElem hi) (List.getElem?_eq_getElem hj)
  · intro h i j x y hij hx hy
    obtain ⟨hi, rfl⟩ := List.getElem?_eq_some_iff.1 hx
    obtain ⟨hj, rfl⟩ := List.getElem?_eq_some_iff.1 hy
    exact h i j hi hj hij
theorem ltL_of_key {a b a' b' : Lk} (h : ltL a b) (e1 : a'.thing = a.thing) (e2 : a'.txn = a.txn) (e3 : b'.thing = b.thing) (e4 : b'.txn = b.txn) : ltL a' b' := by
  unfold ltL ordL at h ⊢
  rw [e1, e2, e3, e4]; exact h
theorem take_rising {l : List Lk} {x : Lk} (h : Rising l) : Rising (takeM l x) := by
  obtain ⟨h1, h2, h3⟩ := posL_spec (h.mono (t := x.thing) (n := x.txn))
  unfold takeM
  split
  · rename_i hat
    obtain ⟨y, hy, _⟩ := isAt_get hat
    rw [hy]
    generalize posL (ordX x) l = p at hy
    have key : ∀ (i : Nat) z, (l.set p ⟨y.thing, y.txn, y.share && x.share⟩)[i]? = some z → ∃ z', l[i]? = some z' ∧ z.thing = z'.thing ∧ z.txn = z'.txn := fun i z hz => by
      by_cases e : p = i
      · subst e
        rw [List.getElem?_set_self (List.getElem?_eq_some_iff.1 hy).1] at hz
        cases hz
        exact ⟨y, hy, rfl, rfl⟩
      · rw [List.getElem?_set_ne e] at hz
        exact ⟨z, hz, rfl, rfl⟩
    intro i j a b hij ha hb
    obtain ⟨a', ha', e1, e2⟩ := key i a ha
    obtain ⟨b', hb', e3, e4⟩ := key j b hb
    exact ltL_of_key (h i j a' b' hij ha' hb') e1 e2 e3 e4
  · rename_i hat
    have hp := rising_pair.1 h
    have e : (fun x_1 : Lk => ordL x_1 x.thing x.txn) = ordX x := rfl
    rw [e] at h1 h2 h3
    rw [rising_pair]
    unfold insL
    rw [← List.take_append_drop (posL (ordX x) l) l, List.pairwise_append] at hp
    rw [List.pairwise_append, List.pairwise_cons]
    refine ⟨hp.1, ⟨fun y hy => ?_, hp.2.1⟩, fun y hy z hz => ?_⟩
    · obtain ⟨k, hk⟩ := List.getElem?_of_mem hy
      rw [List.getElem?_drop] at hk
      have hge := h3 _ y (by omega) hk
      have hne : ordX x y ≠ 0 := fun h0 => by
        have hlt := (List.getElem?_eq_some_iff.1 hk).1
        obtain ⟨z, hz⟩ := get_of (l := l) (i := posL (ordX x) l) (by omega)
        by_cases ek : k = 0
        · subst ek
          rw [Nat.add_zero] at hk
          apply hat
          unfold isAtL atZ
          rw [hk]
          exact decide_eq_true h0
        · have hl := h _ _ z y (by omega : posL (ordX x) l < posL (ordX x) l + k) hz hk
          have hz0 := h3 _ z (Nat.le_refl _) hz
          obtain ⟨e1, e2⟩ := ordL_eq.1 h0
          unfold ltL at hl
          rw [e1, e2] at hl
          have : ordX x z < 0 := hl
          omega
      unfold ltL
      have hge2 : 0 ≤ ordX x y := hge
      have n1 : ¬ ordX x y < 0 := by omega
      unfold ordX at n1 hne
      rw [ordL_lt] at n1
      have n2 : ¬ (y.thing = x.thing ∧ y.txn = x.txn) := fun h => hne (ordL_eq.2 h)
      rw [ordL_lt]
      by_cases h : x.thing = y.thing
      · refine .inr ⟨h, ?_⟩
        have g1 : ¬ y.txn < x.txn := fun hh => n1 (.inr ⟨h.symm, hh⟩)
        have g2 : y.txn ≠ x.txn := fun hh => n2 ⟨h.symm, hh⟩
        omega
      · rcases strL_total h with h | h
        · exact .inl h
        · exact absurd (.inl h) n1
    · rcases List.mem_cons.1 hz with rfl | hz
      · obtain ⟨k, hk⟩ := List.getElem?_of_mem hy
        rw [List.getElem?_take] at hk
        split at hk
        · exact h2 k y ‹_› hk
        · cases hk
      · exact hp.2.2 y hy z hz
section
variable {H0 H : Hp} {Q : Value → Hp → Prop}
theorem Row.pushW {S : Option Addr} {c g : Nat} {st : List Wt} {w : Wt} {K : Option Addr → Nat → Nat → Hp → Prop} (R : Row H0 H S st.length c 3 (st.flatMap wtC)) (hx : Ext H0 H) (hs : st.length < big) (hg : H g = none)
    (hk : ∀ A' c' H', Row H0 H' A' (st ++ [w]).length c' 3 ((st ++ [w]).flatMap wtC) → Ext H0 H' → (∀ b, H' b ≠ H b → rowB S b ∨ H b = none) → (∀ b, rowB A' b → rowB S b ∨ H b = none) → K A' (st ++ [w]).length c' H') :
    appendF (upd g (.cells [Value.int .i64 w.txn, .string w.thing, .bool w.share].toArray 42 (0, 0)) H) 42 3 32 S st.length c (some ⟨g, 0, none⟩) 1 K := by
  unfold big at hs
  have hx1 : Ext H (upd g (.cells [Value.int .i64 w.txn, .string w.thing, .bool w.share].toArray 42 (0, 0)) H) := Ext.new hg
  have R1 := Row.keep R (fun b hb => ext_at hx1 (R.lt hb).1)
  refine R1.append (hx.trans hx1) (new := wtC w) (.inr ⟨g, 0, rfl, fun j v hj => by rw [cl_cells upd_at, Nat.zero_add]; exact hj⟩) rfl wtC_one1 (by omega) (by omega) fun A' c' H' R' x' ch nw _ => ?_
  have old : ∀ b, (upd g (.cells [Value.int .i64 w.txn, .string w.thing, .bool w.share].toArray 42 (0, 0)) H) b = none → H b = none := fun b h => hx1.none h
  have := hk A' c' H' (by rw [List.length_append, List.flatMap_append]; simpa using R') x' (fun b hb => ?_) (fun b hb => (nw b hb).imp id (old b))
  · rw [List.length_append] at this; exact this
  · by_cases e : b = g
    · subst e; exact .inr hg
    · have : H' b ≠ (upd g (.cells [Value.int .i64 w.txn, .string w.thing, .bool w.share].toArray 42 (0, 0)) H) b := by rw [upd_off e]; exact hb
      exact (ch b this).2.imp id (old b)
/-- How far wake has come. -/
structure WakeI (H0 H : Hp) (g ty : Nat) (B1 : Option Addr) (d1 : Nat) (B2 : Option Addr) (d2 : Nat) (l : LK) (s : WkS) (C0 : Option Addr) (e0 : Nat) (S : Option Addr) (s0 : Nat) (W : Option Addr) (w0 : Nat) : Prop where
  cell : H g = some (.cells [Value.slice C0 s.1.length e0, .slice B1 l.waits.length d1, .slice B2 l.inner.length d2].toArray ty (0, 0))
  own : OwnL H0 H C0 e0 B1 d1 B2 d2 ⟨s.1, l.waits, l.inner⟩
  nC : ¬ rowB C0 g
  stay : Row H0 H S s.2.1.length s0 3 (s.2.1.flatMap wtC)
  wok : RowI H0 H W w0 s.2.2
  sep : ∀ b, rowB S b → b ≠ g ∧ ¬ rowB C0 b ∧ ¬ rowB B1 b ∧ ¬ rowB B2 b ∧ ¬ rowB W b
  sepW : ∀ b, rowB W b → b ≠ g ∧ ¬ rowB C0 b ∧ ¬ rowB B1 b ∧ ¬ rowB B2 b
theorem WakeI.more {H' : Hp} {g ty : Nat} {B1 B2 C0 S W : Option Addr} {d1 d2 e0 s0 w0 : Nat} {l : LK} {s : WkS} (I : WakeI H0 H g ty B1 d1 B2 d2 l s C0 e0 S s0 W w0) (hx : Ext H H') : WakeI H0 H' g ty B1 d1 B2 d2 l s C0 e0 S s0 W w0 :=
  ⟨hx _ _ I.cell, I.own.more hx, I.nC, Row.keep I.stay (fun b hb => ext_at hx (I.stay.lt hb).1), Row.keep I.wok (fun b hb => ext_at hx (Row.lt I.wok hb).1), I.sep, I.sepW⟩
theorem WakeI.pushS {g ty : Nat} {B1 B2 C0 S W : Option Addr} {d1 d2 e0 s0 w0 : Nat} {l : LK} {s : WkS} (I : WakeI H0 H g ty B1 d1 B2 d2 l s C0 e0 S s0 W w0) {w : Wt} (hs : s.2.1.length < big) {K : Option Addr → Nat → Nat → Hp → Prop}
    (hk : ∀ A' c' H', WakeI H0 H' g ty B1 d1 B2 d2 l (s.1, s.2.1 ++ [w], s.2.2) C0 e0 A' c' W w0 → K A' (s.2.1 ++ [w]).length c' H') :
    newF H 42 [.int .i64 w.txn, .string w.thing, .bool w.share] fun g31 H32 => appendF H32 42 3 32 S s.2.1.length s0 (some ⟨g31, 0, none⟩) 1 K := by
  intro q hq
  refine Row.pushW I.stay I.own.ext hs hq fun A' c' H' R' x' ch nw => hk A' c' H' ?_
  have keep : ∀ b, H b ≠ none → ¬ rowB S b → H' b = H b := fun b hn hb => Classical.byContradiction fun hne => by
    rcases ch b hne with h | h
    · exact hb h
    · exact hn h
  have kg : H g ≠ none := by rw [I.cell]; simp
  refine ⟨?_, ⟨x', I.own.held.keep fun b hb => keep b (I.own.held.lt hb).1 fun h => (I.sep b h).2.1 hb, I.own.waits.keep fun b hb => keep b (I.own.waits.lt hb).1 fun h => (I.sep b h).2.2.1 hb, I.own.inner.keep fun b hb => keep b (I.own.inner.lt hb).1 fun h => (I.sep b h).2.2.2.1 hb, I.own.s01, I.own.s02, I.own.s12⟩, I.nC, R', Row.keep I.wok fun b hb => keep b (Row.lt I.wok hb).1 fun h => (I.sep b h).2.2.2.2 hb, fun b hb => ?_, I.sepW⟩
  · rw [keep g kg fun h => (I.sep g h).1 rfl]; exact I.cell
  · rcases nw b hb with h | h
    · exact I.sep b h
    · exact ⟨fun e => kg (e ▸ h), fun h' => (I.own.held.lt h').1 h, fun h' => (I.own.waits.lt h').1 h, fun h' => (I.own.inner.lt h').1 h, fun h' => (Row.lt I.wok h').1 h⟩
theorem WakeI.pushI {g ty : Nat} {B1 B2 C0 S W : Option Addr} {d1 d2 e0 s0 w0 : Nat} {l : LK} {s : WkS} (I : WakeI H0 H g ty B1 d1 B2 d2 l s C0 e0 S s0 W w0) {x : Int} (hs : s.2.2.length < big) {K : Option Addr → Nat → Nat → Hp → Prop}
    (hk : ∀ A' c' H', WakeI H0 H' g ty B1 d1 B2 d2 l (s.1, s.2.1, s.2.2 ++ [x]) C0 e0 S s0 A' c' → K A' (s.2.2 ++ [x]).length c' H') :
    newF H 3 [.int .i64 x] fun g31 H32 => appendF H32 3 1 8 W s.2.2.length w0 (some ⟨g31, 0, none⟩) 1 K := by
  intro q hq
  refine RowI.push I.wok I.own.ext hs hq fun A' c' H' R' x' ch nw => ?_
  have keep : ∀ b, H b ≠ none → ¬ rowB W b → H' b = H b := fun b hn hb => Classical.byContradiction fun hne => by
    rcases ch b hne with h | h
    · exact hb h
    · exact hn h
  have kg : H g ≠ none := by rw [I.cell]; simp
  have := hk A' c' H' ⟨?_, ⟨x', I.own.held.keep fun b hb => keep b (I.own.held.lt hb).1 fun h => (I.sepW b h).2.1 hb, I.own.waits.keep fun b hb => keep b (I.own.waits.lt hb).1 fun h => (I.sepW b h).2.2.1 hb, I.own.inner.keep fun b hb => keep b (I.own.inner.lt hb).1 fun h => (I.sepW b h).2.2.2 hb, I.own.s01, I.own.s02, I.own.s12⟩, I.nC, Row.keep I.stay fun b hb => keep b (I.stay.lt hb).1 fun h => (I.sep b hb).2.2.2.2 h, R', fun b hb => ?_, fun b hb => ?_⟩
  · rw [List.length_append] at this; exact this
  · rw [keep g kg fun h => (I.sepW g h).1 rfl]; exact I.cell
  · obtain ⟨h1, h2, h3, h4, h5⟩ := I.sep b hb
    refine ⟨h1, h2, h3, h4, fun h => ?_⟩
    rcases nw b h with h | h
    · exact h5 h
    · exact (I.stay.lt hb).1 h
  · rcases nw b hb with h | h
    · exact I.sepW b h
    · exact ⟨fun e => kg (e ▸ h), fun h' => (I.own.held.lt h').1 h, fun h' => (I.own.waits.lt h').1 h, fun h' => (I.own.inner.lt h').1 h⟩
theorem WakeI.take {g ty : Nat} {B1 B2 C0 S W : Option Addr} {d1 d2 e0 s0 w0 : Nat} {l : LK} {s : WkS} (I : WakeI H0 H g ty B1 d1 B2 d2 l s C0 e0 S s0 W w0) {x : Lk} (hg0 : H0 g = none) (n1 : ¬ rowB B1 g) (n2 : ¬ rowB B2 g) (hs : Small ⟨s.1, l.waits, l.inner⟩) (hr : Rising s.1)
    (hk : ∀ C1 e1 H', WakeI H0 H' g ty B1 d1 B2 d2 l (takeM s.1 x, s.2.1, s.2.2) C1 e1 S s0 W w0 → Q (.tuple #[]) H') :
    HCalls Try.prog 40 [.pointer (some ⟨g, 0, none⟩), .agg #[.string x.thing, .int .i64 x.txn, .bool x.share]] H Q := by
  refine c40x (l := ⟨s.1, l.waits, l.inner⟩) I.cell I.own hg0 I.nC n1 n2 hs hr fun C1 e1 H' hc ow nC ch nw => hk C1 e1 H' ?_
  have keep : ∀ b, H b ≠ none → b ≠ g → ¬ rowB C0 b → H' b = H b := fun b hn hbg hb => Classical.byContradiction fun hne => by
    rcases ch b hne with h | h | h
    · exact hbg h
    · exact hb h
    · exact hn h
  refine ⟨hc, ow, nC, Row.keep I.stay fun b hb => keep b (I.stay.lt hb).1 (I.sep b hb).1 (I.sep b hb).2.1, Row.keep I.wok fun b hb => keep b (Row.lt I.wok hb).1 (I.sepW b hb).1 (I.sepW b hb).2.1, fun b hb => ?_, fun b hb => ?_⟩
  · obtain ⟨h1, h2, h3, h4, h5⟩ := I.sep b hb
    refine ⟨h1, fun h => ?_, h3, h4, h5⟩
    rcases nw b h with h | h
    · exact h2 h
    · exact (I.stay.lt hb).1 h
  · obtain ⟨h1, h2, h3, h4⟩ := I.sepW b hb
    refine ⟨h1, fun h => ?_, h3, h4⟩
    rcases nw b h with h | h
    · exact h2 h
    · exact (Row.lt I.wok hb).1 h
theorem wakeM_succ {held : List Lk} {ws : List Wt} {i : Nat} {w : Wt} (h : ws[i]? = some w) : wakeM held (ws.take (i + 1)) = wakeStep (wakeM held (ws.take i)) w := by
  unfold wakeM
  rw [List.take_add_one, h, List.foldl_append]; rfl
theorem wakeM_ok {held : List Lk} {ws : List Wt} (hr : Rising held) (h0 : ∀ x ∈ held, x.thing.size < huge) (h1 : ∀ w ∈ ws, w.thing.size < huge) : ∀ i, i ≤ ws.length → Rising (wakeM held (ws.take i)).1 ∧ (wakeM held (ws.take i)).1.length ≤ held.length + i ∧ (wakeM held (ws.take i)).2.1.length ≤ i ∧ (wakeM held (ws.take i)).2.2.length ≤ i ∧ (∀ x ∈ (wakeM held (ws.take i)).1, x.thing.size < huge) ∧ (∀ x ∈ (wakeM held (ws.take i)).2.1, x.thing.size < huge)
  | 0, _ => ⟨hr, by simp [wakeM], by simp [wakeM], by simp [wakeM], h0, fun x h => (by simp [wakeM] at h)⟩
  | i + 1, hi => by
    obtain ⟨g1, g2, g3, g4, g5, g6⟩ := wakeM_ok hr h0 h1 i (by omega)
    obtain ⟨w, hw⟩ := get_of (l := ws) (i := i) (by omega)
    have hwl := h1 w (List.mem_of_getElem? hw)
    rw [wakeM_succ hw]
    unfold wakeStep
    split
    · have := take_len (l := (wakeM held (ws.take i)).1) (x := lockOf w)
      exact ⟨take_rising g1, by simp only; omega, by simp only; omega, by simp only [List.length_append, List.length_singleton]; omega, take_str g5 hwl, g6⟩
    · refine ⟨g1, by simp only; omega, by simp only [List.length_append, List.length_singleton]; omega, by simp only; omega, g5, fun x hx => ?_⟩
      rcases List.mem_append.1 hx with hx | hx
      · exact g6 x hx
      · obtain rfl := List.mem_singleton.1 hx; exact hwl
theorem c34 {g : Nat} {l : LK} (o : OutL H0 H g l) (hs : Small l) (hb : l.held.length + l.waits.length < big) (hr : Rising l.held)
    (hq : ∀ A c H', OutL H0 H' g ⟨(wakeM l.held l.waits).1, (wakeM l.held l.waits).2.1, l.inner⟩ → RowI H0 H' A c (wakeM l.held l.waits).2.2 → Q (.slice A (wakeM l.held l.waits).2.2.length c) H') :
    HCalls Try.prog 34 [.pointer (some ⟨g, 0, none⟩)] H Q := by
  refine f34.ok _ _ ?_
  unfold f34
  obtain ⟨B0, d0, B1, d1, B2, d2, ty, hg, ow, hg0, n0, n1, n2⟩ := o
  have hok := wakeM_ok hr hs.2.2.2.1 hs.2.2.2.2
  have hbb := hb
  unfold big at hbb
  refine ⟨B1, l.waits.length, d1, by rw [cl_cells hg]; rfl, ?_⟩
  refine loop_to l.waits.length (fun i s H' => ∃ C0 e0 S s0 W w0, s = (((S, (wakeM l.held (l.waits.take i)).2.1.length, s0), ((W, (wakeM l.held (l.waits.take i)).2.2.length, w0), ((i : Int), ()))), ()) ∧ WakeI H0 H' g ty B1 d1 B2 d2 l (wakeM l.held (l.waits.take i)) C0 e0 S s0 W w0)
    ⟨B0, d0, none, 0, none, 0, rfl, hg, ow, n0, Row.nil, Row.nil, fun b ⟨_, _, h⟩ => (by cases h), fun b ⟨_, _, h⟩ => (by cases h)⟩ ?_
  rintro i s H3 next hi ⟨C0, e0, S, s0, W, w0, rfl, I⟩ hnext
  dsimp only
  obtain ⟨k1, k2, k3, k4, k5, k6⟩ := hok i hi
  by_cases hlt : i < l.waits.length
  · obtain ⟨w, hw⟩ := get_of hlt
    have hsuc := wakeM_succ (held := l.held) hw
    have hsm : Small ⟨(wakeM l.held (l.waits.take i)).1, l.waits, l.inner⟩ := by
      unfold Small big at hs ⊢
      exact ⟨by simp only; omega, hs.2.1, hs.2.2.1, k5, hs.2.2.2.2⟩
    have ha := I.own.at hsm
    have ei : IntKind.i64.wrap ((i : Int) + 1) = ((i + 1 : Nat) : Int) := by rw [wrap_id (by omega) (by omega)]; rfl
    refine cndT (decide_eq_true (by omega)) (jn_intro (fun J => ∀ C1 e1 S' s1 W' w1 H', WakeI H0 H' g ty B1 d1 B2 d2 l (wakeM l.held (l.waits.take (i + 1))) C1 e1 S' s1 W' w1 → J S' (wakeM l.held (l.waits.take (i + 1))).2.1.length s1 W' (wakeM l.held (l.waits.take (i + 1))).2.2.length w1 H') (fun C1 e1 S' s1 W' w1 H' I' => ⟨rfl, hnext _ _ hlt ⟨C1, e1, S', s1, W', w1, by rw [ei], I'⟩⟩) fun J hJ => ?_)
    rw [hsuc] at hJ
    generalize wakeM l.held (l.waits.take i) = s at *
    have hcell := I.cell
    refine ⟨by omega, by omega, rd_wt ha.waits hw fun p o _ c1 c2 c3g => ⟨w.txn, by simpa using c1, w.thing, by simpa using c2, w.share, by simpa using c3g, C0, s.1.length, e0, by rw [cl_cells hcell]; rfl, B1, l.waits.length, d1, by rw [cl_cells hcell]; rfl, B2, l.inner.length, d2, by rw [cl_cells hcell]; rfl, c48 ⟨_, _, _, rfl, rfl, ?_⟩⟩⟩
    have hst : SlAt wtC H3 S s.2.1.length s.2.1 := ⟨rfl, I.stay.cells, by unfold huge; omega⟩
    refine c39 (x := lockOf w) ha hst k1 fun H18 hx18 => ⟨_, rfl, cndI (fun hf => ?_) (fun hf => ?_)⟩
    · have hf : freeM s.1 s.2.1 w.txn w.thing w.share = true := hf
      have est : wakeStep s w = (takeM s.1 (lockOf w), s.2.1, s.2.2 ++ [w.txn]) := by unfold wakeStep; rw [if_pos hf]
      rw [est] at hJ
      refine c48 ⟨_, _, _, rfl, WakeI.take (x := lockOf w) (I.more hx18) hg0 n1 n2 hsm k1 fun C1 e1 H26 I26 => ⟨rfl, ?_⟩⟩
      exact WakeI.pushI I26 (by unfold big; simp only; omega) fun A' c' H' I' => hJ C1 e1 S s0 A' c' H' I'
    · have hf : freeM s.1 s.2.1 w.txn w.thing w.share = false := hf
      have est : wakeStep s w = (s.1, s.2.1 ++ [w], s.2.2) := by unfold wakeStep; rw [if_neg (by rw [hf]; decide)]
      rw [est] at hJ
      exact WakeI.pushS (w := w) (I.more hx18) (by unfold big; omega) fun A' c' H' I' => hJ C0 e0 A' c' W w0 H' I'
  · obtain rfl : i = l.waits.length := by omega
    rw [List.take_length] at I ⊢
    refine cndF (decide_eq_false (by omega)) ⟨_, ty, I.cell, by simp, ?_⟩
    generalize wakeM l.held l.waits = s at *
    have off : ∀ (o : Obj) b, b ≠ g → (upd g o H3) b = H3 b := fun o b hb => upd_off hb
    refine hq W w0 _ ⟨C0, e0, S, s0, B2, d2, ty, by rw [upd_at]; rfl, ⟨I.own.ext.upd hg0, I.own.held.keep fun b hb => off _ b fun e => I.nC (e ▸ hb), I.stay.keep fun b hb => off _ b (I.sep b hb).1, I.own.inner.keep fun b hb => off _ b fun e => n2 (e ▸ hb), fun b h0 h1 => (I.sep b h1).2.1 h0, I.own.s02, fun b h1 h2 => (I.sep b h1).2.2.2.1 h2⟩, hg0, I.nC, fun h => (I.sep g h).1 rfl, n2⟩ (Row.keep I.wok fun b hb => off _ b (I.sepW b hb).1)
end
end Go.Proofs.Ytkbancdmhcnhjaa.Hw
