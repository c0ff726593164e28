/- Locks: DeleteFunc. -/
import Derived.Test.YtkbancdmhcnhjaaLt
set_option linter.unusedVariables false
set_option linter.unusedSimpArgs false
namespace Go.Proofs.Ytkbancdmhcnhjaa.Hw
open Go Go.Proofs
section
variable {H0 H : Hp} {Q : Value → Hp → Prop} {α : Type} {f : α → List Value} {k : Nat}
theorem flat_len (hf : ∀ x, (f x).length = k) {l : List α} : (l.flatMap f).length = l.length * k := flat_length (fun x _ => hf x)
/-- An element stored in place. -/
theorem Row.put (hf : ∀ x, (f x).length = k) {A : Option Addr} {c i : Nat} {l : List α} {x : α} {K : Hp → Prop} (R : Row H0 H A l.length c k (l.flatMap f)) (hx : Ext H0 H) (hi : i < l.length)
    (hk : ∀ H', Row H0 H' A l.length c k ((l.set i x).flatMap f) → Ext H0 H' → (∀ q, H' q ≠ H q → rowB A q) → K H') : onPtr A fun b o => storeF H b (o + i * k) (f x) K := by
  obtain ⟨h1, h2, h3 | ⟨bs, cs, ty, rfl, hbs, hcl, ht, hz⟩⟩ := R
  · omega
  have hP : ((l.take i).flatMap f).length = i * k := by rw [flat_len hf, List.length_take, Nat.min_eq_left (by omega)]
  have hsp : l.flatMap f = (l.take i).flatMap f ++ f l[i] ++ (l.drop (i + 1)).flatMap f := by
    conv => lhs; rw [← List.take_append_drop i l, List.drop_eq_getElem_cons hi]
    rw [List.flatMap_append, List.flatMap_cons, ← List.append_assoc]
  have hcs : cs = (l.take i).flatMap f ++ f l[i] ++ ((l.drop (i + 1)).flatMap f ++ cs.drop (l.length * k)) := by
    conv => lhs; rw [← List.take_append_drop (l.length * k) cs, ht, hsp]
    simp [List.append_assoc]
  have hset : (l.set i x).flatMap f = (l.take i).flatMap f ++ f x ++ (l.drop (i + 1)).flatMap f := by
    rw [List.set_eq_take_append_cons_drop, if_pos hi, List.flatMap_append, List.flatMap_cons, ← List.append_assoc]
  have e : setR cs (0 + i * k) (f x) = (l.take i).flatMap f ++ f x ++ ((l.drop (i + 1)).flatMap f ++ cs.drop (l.length * k)) := setR_at hcs (by rw [hP]; omega) (by rw [hf, hf])
  have hmul : (i + 1) * k ≤ l.length * k := Nat.mul_le_mul_right k hi
  rw [Nat.add_mul] at hmul
  have hmul2 : l.length * k ≤ c * k := Nat.mul_le_mul_right k h2
  have hroom : 0 + i * k + (f x).length ≤ cs.length := by rw [hf]; omega
  refine ⟨cs, ty, hbs, hroom, hk _ ⟨by rw [flat_len hf, List.length_set], h2, .inr ⟨bs, _, ty, rfl, upd_at, ?_, ?_, hz⟩⟩ (hx.upd hz) fun q hq => ?_⟩
  · rw [setR_length hroom]; omega
  · rw [e, hset, ← List.append_assoc]
    refine List.take_left' ?_
    rw [← hset, flat_len hf, List.length_set]
  · by_cases e : q = bs
    · subst e; exact ⟨_, _, rfl⟩
    · exact absurd (upd_off e) hq
/-- The front of a row. -/
theorem Row.front (hf : ∀ x, (f x).length = k) {A : Option Addr} {n c i : Nat} {l : List α} (R : Row H0 H A n c k (l.flatMap f)) (hn : l.length = n) (hi : i ≤ n) : Row H0 H A i c k ((l.take i).flatMap f) := by
  obtain ⟨h1, h2, h3⟩ := R
  refine ⟨by rw [flat_len hf, List.length_take, Nat.min_eq_left (by omega)], by omega, ?_⟩
  rcases h3 with h3 | ⟨b, cs, ty, rfl, hb, hcl, ht, hz⟩
  · exact .inl h3
  · refine .inr ⟨b, cs, ty, rfl, hb, hcl, ?_, hz⟩
    have : l.flatMap f = (l.take i).flatMap f ++ (l.drop i).flatMap f := by rw [← List.flatMap_append, List.take_append_drop]
    rw [this] at ht
    have e : cs.take (i * k) = (cs.take (n * k)).take (i * k) := by rw [List.take_take, Nat.min_eq_left (Nat.mul_le_mul_right k hi)]
    rw [e, ht, List.take_left' (by rw [flat_len hf, List.length_take, Nat.min_eq_left (by omega)])]
/-- What lies behind the front, cleared. -/
theorem Row.wipe (hf : ∀ x, (f x).length = k) {A : Option Addr} {n c i : Nat} {l : List α} {vs : List Value} {K : Hp → Prop} (R : Row H0 H A n c k (l.flatMap f)) (hx : Ext H0 H) (hn : l.length = n) (hi : i < n) (hv : vs.length = (n - i) * k)
    (hk : ∀ H', Row H0 H' A i c k ((l.take i).flatMap f) → Ext H0 H' → (∀ q, H' q ≠ H q → rowB A q) → K H') : onPtr (cutA A (i * k) (decide (c = i))) fun b o => storeF H b o vs K := by
  have Rf := Row.front hf R hn (Nat.le_of_lt hi)
  obtain ⟨h1, h2, h3 | ⟨bs, cs, ty, rfl, hbs, hcl, ht, hz⟩⟩ := R
  · omega
  rw [decide_eq_false (by omega), cut_some]
  have hmul : i * k ≤ n * k := Nat.mul_le_mul_right k (Nat.le_of_lt hi)
  have hmul2 : n * k ≤ c * k := Nat.mul_le_mul_right k h2
  rw [Nat.sub_mul] at hv
  have hroom : 0 + i * k + vs.length ≤ cs.length := by omega
  obtain ⟨g1, g2, g3 | ⟨b', cs', ty', hA, hb', hcl', ht', hz'⟩⟩ := Rf
  · cases g3.1
  cases hA
  rw [hbs] at hb'
  cases hb'
  refine ⟨cs, ty, hbs, hroom, hk _ ⟨g1, g2, .inr ⟨bs, _, ty, rfl, upd_at, by rw [setR_length hroom]; exact hcl, ?_, hz⟩⟩ (hx.upd hz) fun q hq => ?_⟩
  · rw [← ht']
    unfold setR
    rw [Nat.zero_add, List.append_assoc]
    rw [List.take_append_of_le_length (by rw [List.length_take]; omega), List.take_take, Nat.min_self]
  · by_cases e : q = bs
    · subst e; exact ⟨_, _, rfl⟩
    · exact absurd (upd_off e) hq
/-- How far a DeleteFunc has come. -/
structure DelI (H0 Hs H : Hp) (f : α → List Value) (k : Nat) (g : α → Bool) (A : Option Addr) (c : Nat) (l : List α) (i j : Nat) : Prop where
  le : i ≤ j
  ext : Ext H0 H
  foreign : ∀ q, ¬ rowB A q → H q = Hs q
  row : ∃ L : List α, L.length = l.length ∧ L.take i = (l.take j).filter (fun x => !g x) ∧ L.drop j = l.drop j ∧ Row H0 H A l.length c k (L.flatMap f)
theorem DelI.start {g : α → Bool} {A : Option Addr} {c i : Nat} {l : List α} (R : Row H0 H A l.length c k (l.flatMap f)) (hx : Ext H0 H) (hi : i < l.length) (h1 : (l.take i).any g = false) {x : α} (h2 : l[i]? = some x) (h3 : g x = true) : DelI H0 H H f k g A c l i (i + 1) := by
  refine ⟨by omega, hx, fun _ _ => rfl, l, rfl, ?_, rfl, R⟩
  rw [List.take_add_one, h2, List.filter_append]
  have : (l.take i).filter (fun x => !g x) = l.take i := by
    rw [List.filter_eq_self]
    intro y hy
    cases hg : g y with
    | false => rfl
    | true => rw [List.any_eq_true.2 ⟨y, hy, hg⟩] at h1; cases h1
  rw [this]
  simp [h3]
theorem DelI.get {Hs : Hp} {g : α → Bool} {A : Option Addr} {c i j : Nat} {l : List α} (D : DelI H0 Hs H f k g A c l i j) {x : α} (hj : l[j]? = some x) : ∃ L : List α, L.length = l.length ∧ Row H0 H A l.length c k (L.flatMap f) ∧ L[j]? = some x := by
  obtain ⟨L, h1, h2, h3, h4⟩ := D.row
  refine ⟨L, h1, h4, ?_⟩
  have := congrArg (fun l => l[0]?) h3
  simpa [hj] using this
theorem DelI.skip {Hs : Hp} {g : α → Bool} {A : Option Addr} {c i j : Nat} {l : List α} (D : DelI H0 Hs H f k g A c l i j) {x : α} (hj : l[j]? = some x) (hg : g x = true) : DelI H0 Hs H f k g A c l i (j + 1) := by
  obtain ⟨L, h1, h2, h3, h4⟩ := D.row
  refine ⟨by have := D.le; omega, D.ext, D.foreign, L, h1, ?_, ?_, h4⟩
  · rw [h2, List.take_add_one, hj, List.filter_append]
    simp [hg]
  · have := congrArg (List.drop 1) h3
    simpa [List.drop_drop, Nat.add_comm] using this
theorem DelI.move (hf : ∀ x, (f x).length = k) {Hs : Hp} {g : α → Bool} {A : Option Addr} {c i j : Nat} {l : List α} {K : Hp → Prop} (D : DelI H0 Hs H f k g A c l i j) {x : α} (hj : l[j]? = some x) (hg : g x = false)
    (hk : ∀ H', DelI H0 Hs H' f k g A c l (i + 1) (j + 1) → K H') : onPtr A fun b o => storeF H b (o + i * k) (f x) K := by
  obtain ⟨L, h1, h2, h3, h4⟩ := D.row
  have hle := D.le
  have hjl := (List.getElem?_eq_some_iff.1 hj).1
  rw [← h1] at h4
  refine Row.put hf h4 D.ext (by omega) fun H' R' x' ch => hk H' ⟨by omega, x', fun q hq => ?_, L.set i x, by rw [List.length_set, h1], ?_, ?_, ?_⟩
  · exact (Classical.byContradiction fun hne => hq (ch q hne) : H' q = H q).trans (D.foreign q hq)
  · rw [List.take_add_one, List.take_set_of_le (Nat.le_refl _), h2, List.take_add_one, hj, List.filter_append, List.getElem?_set_self (by omega)]
    simp [hg]
  · rw [List.drop_set_of_lt (by omega)]
    have := congrArg (List.drop 1) h3
    simpa [List.drop_drop, Nat.add_comm] using this
  · rw [h1] at R'; exact R'
theorem DelI.last (hf : ∀ x, (f x).length = k) {Hs : Hp} {g : α → Bool} {A : Option Addr} {c i : Nat} {l : List α} (D : DelI H0 Hs H f k g A c l i l.length) : i = (l.filter fun x => !g x).length ∧ Row H0 H A i c k ((l.filter fun x => !g x).flatMap f) := by
  obtain ⟨L, h1, h2, h3, h4⟩ := D.row
  rw [List.take_length] at h2
  have hle := D.le
  rw [← h2]
  exact ⟨by rw [List.length_take]; omega, Row.front hf h4 h1 hle⟩
end
section
variable {H0 H : Hp} {Q : Value → Hp → Prop}
theorem c53x {A : Option Addr} {n c : Nat} {l : List Lk} {f : Nat} {fa fc : Array Value} {g : Lk → Bool} (hA : SlAt lkC H A n l) (hf : FnOk Try.prog f)
    (hg : ∀ x ∈ l, ∀ Q : Value → Hp → Prop, Q (.bool (g x)) H → HCalls Try.prog f (fa.toList ++ [.agg #[.string x.thing, .int .i64 x.txn, .bool x.share]] ++ fc.toList) H Q) (hn : l.any g = false → Q (.int .i64 (-1)) H) (hy : ∀ (i : Nat) x, i < l.length → (l.take i).any g = false → l[i]? = some x → g x = true → Q (.int .i64 (i : Int)) H) :
    HCalls Try.prog 53 [.slice A n c, .func (.func f) fa fc] H Q := by
  refine f53.ok _ _ _ _ _ _ ?_
  unfold f53
  obtain rfl := hA.len
  refine scan hA.lt (fun i H' => H' = H ∧ (l.take i).any g = false) ⟨rfl, by simp⟩ ?_ ?_
  · rintro i H next hi ⟨rfl, hI⟩ hnext
    obtain ⟨x, hx⟩ := get_of hi
    refine cndT (by simpa using hi) ⟨by simp, by simpa using hi, rd_lk hA hx fun b o _ k1 k2 k3 => ⟨x.thing, by simpa using k1, x.txn, by simpa using k2, x.share, by simpa using k3, hf, hg x (List.mem_of_getElem? hx) _ ⟨g x, rfl, cndI (fun h => hy i x hi hI hx h) (fun h => ⟨rfl, ?_⟩)⟩⟩⟩
    exact hnext _ ⟨rfl, by rw [any_take_succ hx, hI, h]; rfl⟩
  · rintro H next ⟨rfl, hI⟩
    exact cndF (by simp) (hn (any_done hI))
theorem c28 {A : Option Addr} {n c : Nat} {l : List Lk} {f : Nat} {fa fc : Array Value} {g : Lk → Bool} (R : Row H0 H A n c 3 (l.flatMap lkC)) (hx : Ext H0 H) (hn : n = l.length) (hs : l.length < big) (hf : FnOk Try.prog f)
    (hg : ∀ x ∈ l, ∀ (H' : Hp) (Q : Value → Hp → Prop), (∀ q, ¬ rowB A q → H' q = H q) → Q (.bool (g x)) H' → HCalls Try.prog f (fa.toList ++ [.agg #[.string x.thing, .int .i64 x.txn, .bool x.share]] ++ fc.toList) H' Q)
    (hq : ∀ H', Row H0 H' A (l.filter fun x => !g x).length c 3 ((l.filter fun x => !g x).flatMap lkC) → Ext H0 H' → (∀ q, ¬ rowB A q → H' q = H q) → Q (.slice A (l.filter fun x => !g x).length c) H') :
    HCalls Try.prog 28 [.slice A n c, .func (.func f) fa fc] H Q := by
  refine f28.ok _ _ _ _ _ _ ?_
  unfold f28
  subst hn
  have hsb := hs
  unfold big at hsb
  have hcap := R.2.1
  have hA : SlAt lkC H A l.length l := ⟨rfl, R.cells, by unfold huge; omega⟩
  refine c53x hA hf (fun x hx Q' hq' => hg x hx H Q' (fun _ _ => rfl) hq') (fun hno => ⟨_, rfl, cndT rfl ?_⟩) (fun i0 x0 hi0 hany hx0 hgx0 => ⟨_, rfl, cndF (by simp) ?_⟩)
  · have e : (l.filter fun x => !g x) = l := by
      rw [List.filter_eq_self]
      intro y hy
      cases hgy : g y with
      | false => rfl
      | true => rw [List.any_eq_true.2 ⟨y, hy, hgy⟩] at hno; cases hno
    rw [e] at hq
    exact hq H R hx (fun _ _ => rfl)
  · refine loop_to (l.length - (i0 + 1)) (fun t s H' => ∃ i j : Nat, s = (((i : Int), ((j : Int), ())), ()) ∧ j = i0 + 1 + t ∧ DelI H0 H H' lkC 3 g A c l i j) ⟨i0, i0 + 1, by rw [wrap_id (by omega) (by omega)]; rfl, rfl, DelI.start R hx hi0 hany hx0 hgx0⟩ ?_
    rintro t s H' next ht ⟨i, j, rfl, hj, D⟩ hnext
    dsimp only
    have hle := D.le
    by_cases hlt : j < l.length
    · obtain ⟨x, hx'⟩ := get_of hlt
      have ej : IntKind.i64.wrap ((j : Int) + 1) = ((j + 1 : Nat) : Int) := by rw [wrap_id (by omega) (by omega)]; rfl
      have ei : IntKind.i64.wrap ((i : Int) + 1) = ((i + 1 : Nat) : Int) := by rw [wrap_id (by omega) (by omega)]; rfl
      refine cndT (decide_eq_true (by omega)) (jn_intro (fun J => ∀ (i' : Nat) H2, DelI H0 H H2 lkC 3 g A c l i' (j + 1) → J (i' : Int) H2) (fun i' H2 D2 => ⟨rfl, hnext _ _ (by omega) ⟨i', j + 1, by rw [ej], by omega, D2⟩⟩) fun J hJ => ?_)
      obtain ⟨L, hL, RL, hLj⟩ := D.get hx'
      have hLA : SlAt lkC H' A L.length L := ⟨rfl, RL.cells, by unfold huge; omega⟩
      refine ⟨by omega, by omega, rd_lk hLA hLj fun b o _ k1 k2 k3 => ⟨x.thing, by simpa using k1, x.txn, by simpa using k2, x.share, by simpa using k3, hf, hg x (List.mem_of_getElem? hx') H' _ D.foreign ⟨g x, rfl, cndI (fun h => ⟨by omega, by omega, ?_⟩) (fun h => hJ i H' (D.skip hx' (by simpa using h)))⟩⟩⟩
      rw [Int.toNat_natCast]
      refine DelI.move (f := lkC) (fun _ => rfl) D hx' (by simpa using h) fun H2 D2 => ?_
      rw [ei]
      exact hJ (i + 1) H2 D2
    · have e : j = l.length := by omega
      subst e
      obtain ⟨h1, h2⟩ := DelI.last (f := lkC) (fun _ => rfl) D
      obtain ⟨L, hL, eL, _, RL⟩ := D.row
      rw [List.take_length] at eL
      refine cndF (decide_eq_false (by omega)) (jn_intro (fun J => ∀ H2, Row H0 H2 A i c 3 ((l.filter fun x => !g x).flatMap lkC) → Ext H0 H2 → (∀ q, ¬ rowB A q → H2 q = H q) → J H2) (fun H2 R2 x2 ch2 => ⟨by omega, by omega, ?_⟩) fun J hJ => ⟨by omega, by omega, fun _ => hJ H' h2 D.ext D.foreign, fun hpos => ?_⟩)
      · simp only [Int.toNat_natCast, Nat.sub_zero, cut_zero]
        rw [h1] at R2 ⊢
        exact hq H2 R2 x2 ch2
      · simp only [Int.toNat_natCast] at hpos ⊢
        refine Row.wipe (f := lkC) (fun _ => rfl) RL D.ext hL (by omega) (by simp) fun H2 R2 x2 ch2 => hJ H2 (eL ▸ R2) x2 fun q hq' => ?_
        exact (Classical.byContradiction fun hne => hq' (ch2 q hne) : H2 q = H' q).trans (D.foreign q hq')
theorem c54x {A : Option Addr} {n c : Nat} {l : List Wt} {f : Nat} {fa fc : Array Value} {g : Wt → Bool} (hA : SlAt wtC H A n l) (hf : FnOk Try.prog f)
    (hg : ∀ x ∈ l, ∀ Q : Value → Hp → Prop, Q (.bool (g x)) H → HCalls Try.prog f (fa.toList ++ [.agg #[.int .i64 x.txn, .string x.thing, .bool x.share]] ++ fc.toList) H Q) (hn : l.any g = false → Q (.int .i64 (-1)) H) (hy : ∀ (i : Nat) x, i < l.length → (l.take i).any g = false → l[i]? = some x → g x = true → Q (.int .i64 (i : Int)) H) :
    HCalls Try.prog 54 [.slice A n c, .func (.func f) fa fc] H Q := by
  refine f54.ok _ _ _ _ _ _ ?_
  unfold f54
  obtain rfl := hA.len
  refine scan hA.lt (fun i H' => H' = H ∧ (l.take i).any g = false) ⟨rfl, by simp⟩ ?_ ?_
  · rintro i H next hi ⟨rfl, hI⟩ hnext
    obtain ⟨x, hx⟩ := get_of hi
    refine cndT (by simpa using hi) ⟨by simp, by simpa using hi, rd_wt hA hx fun b o _ k1 k2 k3 => ⟨x.txn, by simpa using k1, x.thing, by simpa using k2, x.share, by simpa using k3, hf, hg x (List.mem_of_getElem? hx) _ ⟨g x, rfl, cndI (fun h => hy i x hi hI hx h) (fun h => ⟨rfl, ?_⟩)⟩⟩⟩
    exact hnext _ ⟨rfl, by rw [any_take_succ hx, hI, h]; rfl⟩
  · rintro H next ⟨rfl, hI⟩
    exact cndF (by simp) (hn (any_done hI))
theorem c30 {A : Option Addr} {n c : Nat} {l : List Wt} {f : Nat} {fa fc : Array Value} {g : Wt → Bool} (R : Row H0 H A n c 3 (l.flatMap wtC)) (hx : Ext H0 H) (hn : n = l.length) (hs : l.length < big) (hf : FnOk Try.prog f)
    (hg : ∀ x ∈ l, ∀ (H' : Hp) (Q : Value → Hp → Prop), (∀ q, ¬ rowB A q → H' q = H q) → Q (.bool (g x)) H' → HCalls Try.prog f (fa.toList ++ [.agg #[.int .i64 x.txn, .string x.thing, .bool x.share]] ++ fc.toList) H' Q)
    (hq : ∀ H', Row H0 H' A (l.filter fun x => !g x).length c 3 ((l.filter fun x => !g x).flatMap wtC) → Ext H0 H' → (∀ q, ¬ rowB A q → H' q = H q) → Q (.slice A (l.filter fun x => !g x).length c) H') :
    HCalls Try.prog 30 [.slice A n c, .func (.func f) fa fc] H Q := by
  refine f30.ok _ _ _ _ _ _ ?_
  unfold f30
  subst hn
  have hsb := hs
  unfold big at hsb
  have hcap := R.2.1
  have hA : SlAt wtC H A l.length l := ⟨rfl, R.cells, by unfold huge; omega⟩
  refine c54x hA hf (fun x hx Q' hq' => hg x hx H Q' (fun _ _ => rfl) hq') (fun hno => ⟨_, rfl, cndT rfl ?_⟩) (fun i0 x0 hi0 hany hx0 hgx0 => ⟨_, rfl, cndF (by simp) ?_⟩)
  · have e : (l.filter fun x => !g x) = l := by
      rw [List.filter_eq_self]
      intro y hy
      cases hgy : g y with
      | false => rfl
      | true => rw [List.any_eq_true.2 ⟨y, hy, hgy⟩] at hno; cases hno
    rw [e] at hq
    exact hq H R hx (fun _ _ => rfl)
  · refine loop_to (l.length - (i0 + 1)) (fun t s H' => ∃ i j : Nat, s = (((i : Int), ((j : Int), ())), ()) ∧ j = i0 + 1 + t ∧ DelI H0 H H' wtC 3 g A c l i j) ⟨i0, i0 + 1, by rw [wrap_id (by omega) (by omega)]; rfl, rfl, DelI.start R hx hi0 hany hx0 hgx0⟩ ?_
    rintro t s H' next ht ⟨i, j, rfl, hj, D⟩ hnext
    dsimp only
    have hle := D.le
    by_cases hlt : j < l.length
    · obtain ⟨x, hx'⟩ := get_of hlt
      have ej : IntKind.i64.wrap ((j : Int) + 1) = ((j + 1 : Nat) : Int) := by rw [wrap_id (by omega) (by omega)]; rfl
      have ei : IntKind.i64.wrap ((i : Int) + 1) = ((i + 1 : Nat) : Int) := by rw [wrap_id (by omega) (by omega)]; rfl
      refine cndT (decide_eq_true (by omega)) (jn_intro (fun J => ∀ (i' : Nat) H2, DelI H0 H H2 wtC 3 g A c l i' (j + 1) → J (i' : Int) H2) (fun i' H2 D2 => ⟨rfl, hnext _ _ (by omega) ⟨i', j + 1, by rw [ej], by omega, D2⟩⟩) fun J hJ => ?_)
      obtain ⟨L, hL, RL, hLj⟩ := D.get hx'
      have hLA : SlAt wtC H' A L.length L := ⟨rfl, RL.cells, by unfold huge; omega⟩
      refine ⟨by omega, by omega, rd_wt hLA hLj fun b o _ k1 k2 k3 => ⟨x.txn, by simpa using k1, x.thing, by simpa using k2, x.share, by simpa using k3, hf, hg x (List.mem_of_getElem? hx') H' _ D.foreign ⟨g x, rfl, cndI (fun h => ⟨by omega, by omega, ?_⟩) (fun h => hJ i H' (D.skip hx' (by simpa using h)))⟩⟩⟩
      rw [Int.toNat_natCast]
      refine DelI.move (f := wtC) (fun _ => rfl) D hx' (by simpa using h) fun H2 D2 => ?_
      rw [ei]
      exact hJ (i + 1) H2 D2
    · have e : j = l.length := by omega
      subst e
      obtain ⟨h1, h2⟩ := DelI.last (f := wtC) (fun _ => rfl) D
      obtain ⟨L, hL, eL, _, RL⟩ := D.row
      rw [List.take_length] at eL
      refine cndF (decide_eq_false (by omega)) (jn_intro (fun J => ∀ H2, Row H0 H2 A i c 3 ((l.filter fun x => !g x).flatMap wtC) → Ext H0 H2 → (∀ q, ¬ rowB A q → H2 q = H q) → J H2) (fun H2 R2 x2 ch2 => ⟨by omega, by omega, ?_⟩) fun J hJ => ⟨by omega, by omega, fun _ => hJ H' h2 D.ext D.foreign, fun hpos => ?_⟩)
      · simp only [Int.toNat_natCast, Nat.sub_zero, cut_zero]
        rw [h1] at R2 ⊢
        exact hq H2 R2 x2 ch2
      · simp only [Int.toNat_natCast] at hpos ⊢
        refine Row.wipe (f := wtC) (fun _ => rfl) RL D.ext hL (by omega) (by simp) fun H2 R2 x2 ch2 => hJ H2 (eL ▸ R2) x2 fun q hq' => ?_
        exact (Classical.byContradiction fun hne => hq' (ch2 q hne) : H2 q = H' q).trans (D.foreign q hq')
theorem c55x {A : Option Addr} {n c : Nat} {l : List (Int × Int)} {f : Nat} {fa fc : Array Value} {g : (Int × Int) → Bool} (hA : SlAt prC H A n l) (hf : FnOk Try.prog f)
    (hg : ∀ x ∈ l, ∀ Q : Value → Hp → Prop, Q (.bool (g x)) H → HCalls Try.prog f (fa.toList ++ [.agg #[.int .i64 x.1, .int .i64 x.2]] ++ fc.toList) H Q) (hn : l.any g = false → Q (.int .i64 (-1)) H) (hy : ∀ (i : Nat) x, i < l.length → (l.take i).any g = false → l[i]? = some x → g x = true → Q (.int .i64 (i : Int)) H) :
    HCalls Try.prog 55 [.slice A n c, .func (.func f) fa fc] H Q := by
  refine f55.ok _ _ _ _ _ _ ?_
  unfold f55
  obtain rfl := hA.len
  refine scan hA.lt (fun i H' => H' = H ∧ (l.take i).any g = false) ⟨rfl, by simp⟩ ?_ ?_
  · rintro i H next hi ⟨rfl, hI⟩ hnext
    obtain ⟨x, hx⟩ := get_of hi
    refine cndT (by simpa using hi) ⟨by simp, by simpa using hi, rd_pr hA hx fun b o _ k1 k2 => ⟨x.1, by simpa using k1, x.2, by simpa using k2, hf, hg x (List.mem_of_getElem? hx) _ ⟨g x, rfl, cndI (fun h => hy i x hi hI hx h) (fun h => ⟨rfl, ?_⟩)⟩⟩⟩
    exact hnext _ ⟨rfl, by rw [any_take_succ hx, hI, h]; rfl⟩
  · rintro H next ⟨rfl, hI⟩
    exact cndF (by simp) (hn (any_done hI))
theorem c32 {A : Option Addr} {n c : Nat} {l : List (Int × Int)} {f : Nat} {fa fc : Array Value} {g : (Int × Int) → Bool} (R : Row H0 H A n c 2 (l.flatMap prC)) (hx : Ext H0 H) (hn : n = l.length) (hs : l.length < big) (hf : FnOk Try.prog f)
    (hg : ∀ x ∈ l, ∀ (H' : Hp) (Q : Value → Hp → Prop), (∀ q, ¬ rowB A q → H' q = H q) → Q (.bool (g x)) H' → HCalls Try.prog f (fa.toList ++ [.agg #[.int .i64 x.1, .int .i64 x.2]] ++ fc.toList) H' Q)
    (hq : ∀ H', Row H0 H' A (l.filter fun x => !g x).length c 2 ((l.filter fun x => !g x).flatMap prC) → Ext H0 H' → (∀ q, ¬ rowB A q → H' q = H q) → Q (.slice A (l.filter fun x => !g x).length c) H') :
    HCalls Try.prog 32 [.slice A n c, .func (.func f) fa fc] H Q := by
  refine f32.ok _ _ _ _ _ _ ?_
  unfold f32
  subst hn
  have hsb := hs
  unfold big at hsb
  have hcap := R.2.1
  have hA : SlAt prC H A l.length l := ⟨rfl, R.cells, by unfold huge; omega⟩
  refine c55x hA hf (fun x hx Q' hq' => hg x hx H Q' (fun _ _ => rfl) hq') (fun hno => ⟨_, rfl, cndT rfl ?_⟩) (fun i0 x0 hi0 hany hx0 hgx0 => ⟨_, rfl, cndF (by simp) ?_⟩)
  · have e : (l.filter fun x => !g x) = l := by
      rw [List.filter_eq_self]
      intro y hy
      cases hgy : g y with
      | false => rfl
      | true => rw [List.any_eq_true.2 ⟨y, hy, hgy⟩] at hno; cases hno
    rw [e] at hq
    exact hq H R hx (fun _ _ => rfl)
  · refine loop_to (l.length - (i0 + 1)) (fun t s H' => ∃ i j : Nat, s = (((i : Int), ((j : Int), ())), ()) ∧ j = i0 + 1 + t ∧ DelI H0 H H' prC 2 g A c l i j) ⟨i0, i0 + 1, by rw [wrap_id (by omega) (by omega)]; rfl, rfl, DelI.start R hx hi0 hany hx0 hgx0⟩ ?_
    rintro t s H' next ht ⟨i, j, rfl, hj, D⟩ hnext
    dsimp only
    have hle := D.le
    by_cases hlt : j < l.length
    · obtain ⟨x, hx'⟩ := get_of hlt
      have ej : IntKind.i64.wrap ((j : Int) + 1) = ((j + 1 : Nat) : Int) := by rw [wrap_id (by omega) (by omega)]; rfl
      have ei : IntKind.i64.wrap ((i : Int) + 1) = ((i + 1 : Nat) : Int) := by rw [wrap_id (by omega) (by omega)]; rfl
      refine cndT (decide_eq_true (by omega)) (jn_intro (fun J => ∀ (i' : Nat) H2, DelI H0 H H2 prC 2 g A c l i' (j + 1) → J (i' : Int) H2) (fun i' H2 D2 => ⟨rfl, hnext _ _ (by omega) ⟨i', j + 1, by rw [ej], by omega, D2⟩⟩) fun J hJ => ?_)
      obtain ⟨L, hL, RL, hLj⟩ := D.get hx'
      have hLA : SlAt prC H' A L.length L := ⟨rfl, RL.cells, by unfold huge; omega⟩
      refine ⟨by omega, by omega, rd_pr hLA hLj fun b o _ k1 k2 => ⟨x.1, by simpa using k1, x.2, by simpa using k2, hf, hg x (List.mem_of_getElem? hx') H' _ D.foreign ⟨g x, rfl, cndI (fun h => ⟨by omega, by omega, ?_⟩) (fun h => hJ i H' (D.skip hx' (by simpa using h)))⟩⟩⟩
      rw [Int.toNat_natCast]
      refine DelI.move (f := prC) (fun _ => rfl) D hx' (by simpa using h) fun H2 D2 => ?_
      rw [ei]
      exact hJ (i + 1) H2 D2
    · have e : j = l.length := by omega
      subst e
      obtain ⟨h1, h2⟩ := DelI.last (f := prC) (fun _ => rfl) D
      obtain ⟨L, hL, eL, _, RL⟩ := D.row
      rw [List.take_length] at eL
      refine cndF (decide_eq_false (by omega)) (jn_intro (fun J => ∀ H2, Row H0 H2 A i c 2 ((l.filter fun x => !g x).flatMap prC) → Ext H0 H2 → (∀ q, ¬ rowB A q → H2 q = H q) → J H2) (fun H2 R2 x2 ch2 => ⟨by omega, by omega, ?_⟩) fun J hJ => ⟨by omega, by omega, fun _ => hJ H' h2 D.ext D.foreign, fun hpos => ?_⟩)
      · simp only [Int.toNat_natCast, Nat.sub_zero, cut_zero]
        rw [h1] at R2 ⊢
        exact hq H2 R2 x2 ch2
      · simp only [Int.toNat_natCast] at hpos ⊢
        refine Row.wipe (f := prC) (fun _ => rfl) RL D.ext hL (by omega) (by simp) fun H2 R2 x2 ch2 => hJ H2 (eL ▸ R2) x2 fun q hq' => ?_
        exact (Classical.byContradiction fun hne => hq' (ch2 q hne) : H2 q = H' q).trans (D.foreign q hq')
end
end Go.Proofs.Ytkbancdmhcnhjaa.Hw
