/- Locks: rising numbers; the reference's add, all, Waited. -/
import Derived.Test.YtkbancdmhcnhjaaGreatLk
set_option linter.unusedVariables false
set_option linter.unusedSimpArgs false
namespace Go.Proofs.YtkbancdmhcnhjaaGreat.Hw
open Go Go.Proofs
/-- Rising without doubles. -/
def Strict (l : List Int) : Prop := l.Pairwise (· < ·)
def addM (l : List Int) (n : Int) : List Int := if n ∈ l then l else l.filter (· < n) ++ n :: l.filter (n < ·)
theorem strict_split : ∀ {l : List Int} {n : Int}, Strict l → n ∉ l → l = l.filter (· < n) ++ l.filter (n < ·)
  | [], n, _, _ => rfl
  | a :: r, n, h, hn => by
    have hr : Strict r := List.Pairwise.of_cons h
    have ha : ∀ x ∈ r, a < x := fun x hx => List.rel_of_pairwise_cons h hx
    have hne : a ≠ n := fun e => hn (e ▸ List.mem_cons_self)
    by_cases hlt : a < n
    · have h2 : ¬ n < a := by omega
      rw [List.filter_cons, List.filter_cons, if_pos (by simpa using hlt), if_neg (by simpa using h2), List.cons_append, ← strict_split hr (fun h => hn (List.mem_cons_of_mem _ h))]
    · have h2 : n < a := by omega
      have e1 : r.filter (· < n) = [] := by
        rw [List.filter_eq_nil_iff]
        intro x hx
        have := ha x hx
        simp; omega
      have e2 : r.filter (n < ·) = r := by
        rw [List.filter_eq_self]
        intro x hx
        have := ha x hx
        simp; omega
      rw [List.filter_cons, List.filter_cons, if_neg (by simpa using hlt), if_pos (by simpa using h2), e1, e2]; rfl
theorem mem_add {l : List Int} {n x : Int} (h : Strict l) : x ∈ addM l n ↔ x = n ∨ x ∈ l := by
  unfold addM
  split
  · rename_i hm
    exact ⟨.inr, fun h => h.elim (fun e => e ▸ hm) id⟩
  · rename_i hm
    have := strict_split h hm
    conv => rhs; rw [this]
    simp only [List.mem_append, List.mem_cons]
    constructor
    · rintro (h | h | h)
      · exact .inr (.inl h)
      · exact .inl h
      · exact .inr (.inr h)
    · rintro (h | h | h)
      · exact .inr (.inl h)
      · exact .inl h
      · exact .inr (.inr h)
theorem strict_add {l : List Int} {n : Int} (h : Strict l) : Strict (addM l n) := by
  unfold addM
  split
  · exact h
  · unfold Strict
    rw [List.pairwise_append, List.pairwise_cons]
    refine ⟨h.sublist List.filter_sublist, ⟨fun x hx => by simpa using (List.mem_filter.1 hx).2, h.sublist List.filter_sublist⟩, fun x hx y hy => ?_⟩
    have h1 : x < n := by simpa using (List.mem_filter.1 hx).2
    rcases List.mem_cons.1 hy with rfl | hy
    · exact h1
    · have h2 : n < y := by simpa using (List.mem_filter.1 hy).2
      omega
def rise (l : List Int) : List Int := l.foldl addM []
theorem rise_snoc {l : List Int} {x : Int} : rise (l ++ [x]) = addM (rise l) x := by unfold rise; rw [List.foldl_append]; rfl
theorem rise_all {l : List Int} : Strict (rise l) ∧ ∀ x, x ∈ rise l ↔ x ∈ l := by
  have key : ∀ (l acc : List Int), Strict acc → Strict (l.foldl addM acc) ∧ ∀ x, x ∈ l.foldl addM acc ↔ x ∈ acc ∨ x ∈ l := by
    intro l
    induction l with
    | nil => intro acc h; exact ⟨h, fun x => by simp⟩
    | cons a r ih =>
      intro acc h
      obtain ⟨h1, h2⟩ := ih (addM acc a) (strict_add h)
      refine ⟨h1, fun x => ?_⟩
      rw [List.foldl_cons, h2, mem_add h, List.mem_cons]
      constructor
      · rintro ((h | h) | h)
        · exact .inr (.inl h)
        · exact .inl h
        · exact .inr (.inr h)
      · rintro (h | h | h)
        · exact .inl (.inr h)
        · exact .inl (.inl h)
        · exact .inr h
  obtain ⟨h1, h2⟩ := key l [] List.Pairwise.nil
  exact ⟨h1, fun x => by unfold rise; have := h2 x; simpa using this⟩
theorem strict_rise {l : List Int} : Strict (rise l) := rise_all.1
theorem mem_rise {l : List Int} {x : Int} : x ∈ rise l ↔ x ∈ l := rise_all.2 x
theorem strict_ext : ∀ {a b : List Int}, Strict a → Strict b → (∀ x, x ∈ a ↔ x ∈ b) → a = b
  | [], [], _, _, _ => rfl
  | [], y :: b, _, _, h => by have := (h y).2 List.mem_cons_self; cases this
  | x :: a, [], _, _, h => by have := (h x).1 List.mem_cons_self; cases this
  | x :: a, y :: b, ha, hb, h => by
    have hx : ∀ z ∈ a, x < z := fun z hz => List.rel_of_pairwise_cons ha hz
    have hy : ∀ z ∈ b, y < z := fun z hz => List.rel_of_pairwise_cons hb hz
    have e : x = y := by
      have h1 := (h x).1 List.mem_cons_self
      have h2 := (h y).2 List.mem_cons_self
      rcases List.mem_cons.1 h1 with h1 | h1
      · exact h1
      · rcases List.mem_cons.1 h2 with h2 | h2
        · exact h2.symm
        · have := hy x h1; have := hx y h2; omega
    subst e
    congr 1
    refine strict_ext (List.Pairwise.of_cons ha) (List.Pairwise.of_cons hb) fun z => ⟨fun hz => ?_, fun hz => ?_⟩
    · rcases List.mem_cons.1 ((h z).1 (List.mem_cons_of_mem _ hz)) with e | hz'
      · have := hx z hz; omega
      · exact hz'
    · rcases List.mem_cons.1 ((h z).2 (List.mem_cons_of_mem _ hz)) with e | hz'
      · have := hy z hz; omega
      · exact hz'
theorem strict_nodup {l : List Int} (h : Strict l) : l.Nodup := h.imp (fun h e => by omega)
theorem strict_lt {l : List Int} {i j : Nat} {x y : Int} (h : Strict l) (hij : i < j) (hx : l[i]? = some x) (hy : l[j]? = some y) : x < y := by
  obtain ⟨hi, rfl⟩ := List.getElem?_eq_some_iff.1 hx
  obtain ⟨hj, rfl⟩ := List.getElem?_eq_some_iff.1 hy
  exact List.pairwise_iff_getElem.1 h i j hi hj hij
/-- Of a rising list: where a number would stand. -/
theorem strict_cut {l : List Int} {n : Int} {i : Nat} (hi : i ≤ l.length) (h1 : ∀ k x, k < i → l[k]? = some x → x < n) (h2 : ∀ k x, i ≤ k → l[k]? = some x → n ≤ x) (hn : n ∉ l) : l.filter (· < n) = l.take i ∧ l.filter (n < ·) = l.drop i := by
  have hs : l = l.take i ++ l.drop i := (List.take_append_drop i l).symm
  have t1 : ∀ x ∈ l.take i, x < n := fun x hx => by
    obtain ⟨k, hk⟩ := List.getElem?_of_mem hx
    rw [List.getElem?_take] at hk
    split at hk
    · exact h1 k x ‹_› hk
    · cases hk
  have t2 : ∀ x ∈ l.drop i, n < x := fun x hx => by
    obtain ⟨k, hk⟩ := List.getElem?_of_mem hx
    rw [List.getElem?_drop] at hk
    have := h2 _ x (by omega) hk
    have hne : x ≠ n := fun e => hn (e ▸ List.mem_of_getElem? hk)
    omega
  constructor
  · conv => lhs; rw [hs]
    rw [List.filter_append, List.filter_eq_self.2 (fun x hx => by simpa using t1 x hx), List.filter_eq_nil_iff.2 (fun x hx => by have := t2 x hx; simp; omega), List.append_nil]
  · conv => lhs; rw [hs]
    rw [List.filter_append, List.filter_eq_nil_iff.2 (fun x hx => by have := t1 x hx; simp; omega), List.filter_eq_self.2 (fun x hx => by simpa using t2 x hx), List.nil_append]
theorem add_len {l : List Int} {n : Int} (h : Strict l) : (addM l n).length ≤ l.length + 1 := by
  unfold addM
  split
  · omega
  · rename_i hm
    have := congrArg List.length (strict_split h hm)
    rw [List.length_append] at this
    rw [List.length_append, List.length_cons]; omega
section
variable {H0 H : Hp} {Q : Value → Hp → Prop}
theorem RowI.at {A : Option Addr} {c : Nat} {l : List Int} (R : RowI H0 H A c l) (hs : l.length < big) : SlAt inC H A l.length l := ⟨rfl, R.cells, by unfold big at hs; unfold huge; omega⟩
theorem RowI.more {H' : Hp} {A : Option Addr} {c : Nat} {l : List Int} (R : RowI H0 H A c l) (hx : Ext H H') : RowI H0 H' A c l := Row.keep R (fun b hb => ext_at hx (R.lt hb).1)
theorem RowI.head {A : Option Addr} {c p : Nat} {l : List Int} (R : RowI H0 H A c l) (hp : p ≤ l.length) : RowI H0 H A p (l.take p) := by
  obtain ⟨h1, h2, h3⟩ := R
  have hl : (l.take p).length = p := by rw [List.length_take]; omega
  refine ⟨by rw [inC_len], by omega, ?_⟩
  rcases h3 with ⟨rfl, hc⟩ | ⟨b, cs, ty, rfl, hb, hcl, ht, hz⟩
  · exact .inl ⟨rfl, by omega⟩
  · refine .inr ⟨b, cs, ty, rfl, hb, by omega, ?_, hz⟩
    have : l.flatMap inC = (l.take p).flatMap inC ++ (l.drop p).flatMap inC := by rw [← List.flatMap_append, List.take_append_drop]
    rw [this] at ht
    have e : cs.take ((l.take p).length * 1) = (cs.take (l.length * 1)).take (p * 1) := by rw [List.take_take, Nat.min_eq_left (by omega), hl]
    rw [e, ht, List.take_left' (by rw [inC_len, hl])]
theorem c86 {A : Option Addr} {c : Nat} {l : List Int} {n : Int} (R : RowI H0 H A c l) (hx : Ext H0 H) (hs : l.length < big) (hst : Strict l)
    (hq : ∀ A' c' H', RowI H0 H' A' c' (addM l n) → Ext H0 H' → (∀ b, H' b ≠ H b → rowB A b ∨ H b = none) → (∀ b, rowB A' b → rowB A b ∨ H b = none) → Q (.slice A' (addM l n).length c') H') : HCalls Tryz.prog 86 [.slice A l.length c, .int .i64 n] H Q := by
  refine f86.ok _ _ _ _ ?_
  unfold f86
  have hA := R.at hs
  have hsb := hs
  unfold big at hsb
  have hcap := R.2.1
  refine ⟨fun m s H' => ∃ i : Nat, s = (((i : Int), ()), ()) ∧ m = i ∧ i ≤ l.length ∧ H' = H ∧ ∀ k x, i ≤ k → l[k]? = some x → n ≤ x, ⟨_, l.length, rfl, rfl, by omega, rfl, fun k x hk hx => by have := (List.getElem?_eq_some_iff.1 hx).1; omega⟩, ?_⟩
  rintro m s H' ⟨i, rfl, hm, hi, rfl, hge⟩
  have hm2 := hm.symm
  subst hm2
  dsimp only
  refine jn_intro (fun J => ((∃ x, 0 < i ∧ l[i - 1]? = some x ∧ n ≤ x) → J true) ∧ ((∀ k x, k < i → l[k]? = some x → x < n) → J false)) ⟨fun ⟨x, hp, hx', hle⟩ => cndT rfl ⟨rfl, i - 1, by omega, i - 1, ?_, rfl, by omega, rfl, fun k y hk hy => ?_⟩, fun hlt => cndF rfl ?_⟩ fun J hJ => ?_
  · rw [wrap_id (by omega) (by omega)]
    have : ((i : Int) - 1) = ((i - 1 : Nat) : Int) := by omega
    rw [this]
  · by_cases e : k = i - 1
    · subst e; rw [hx'] at hy; cases hy; exact hle
    · exact hge k y (by omega) hy
  · refine jn_intro (fun J => ((∃ x, l[i]? = some x ∧ x = n) → J true) ∧ (n ∉ l → J false)) ⟨fun ⟨x, hx', he⟩ => ?_, fun hn => ?_⟩ fun J hJ => ?_
    · subst he
      have hm : x ∈ l := List.mem_of_getElem? hx'
      have e : addM l x = l := by unfold addM; rw [if_pos hm]
      have := hq A c H' (by rw [e]; exact R) hx (fun b hb => absurd rfl hb) (fun b hb => .inl hb)
      rw [e] at this
      exact cndT rfl this
    · refine cndF rfl ?_
      obtain ⟨e1, e2⟩ := strict_cut hi hlt hge hn
      have e : addM l n = l.take i ++ n :: l.drop i := by unfold addM; rw [if_neg hn, e1, e2]
      have elen : (addM l n).length = l.length + 1 := by rw [e, List.length_append, List.length_cons, List.length_take, List.length_drop]; omega
      simp only [Int.toNat_natCast, Nat.sub_zero, cut_zero]
      refine ⟨by omega, by omega, by omega, by omega, by omega, by omega, fun g hg => ?_⟩
      have hx1 : Ext H' (upd g (.cells [Value.int .i64 n].toArray 3 (0, 0)) H') := Ext.new hg
      have R0 : RowI H0 (upd g (.cells [Value.int .i64 n].toArray 3 (0, 0)) H') A c l := R.more hx1
      have R1 : Row H0 (upd g (.cells [Value.int .i64 n].toArray 3 (0, 0)) H') (some ⟨g, 0, none⟩) 1 1 1 (inC n) := ⟨rfl, Nat.le_refl _, .inr ⟨g, _, 3, rfl, upd_at, Nat.le_refl _, rfl, hx.none hg⟩⟩
      have hsrc := cells_cut (f := inC) (k := 1) (fun _ => rfl) (l := l) (p := i) (m := l.length - i) (stay := decide (c = i)) R0.cells (fun h => by have := of_decide_eq_true h; omega) (by omega)
      rw [List.take_of_length_le (by rw [List.length_drop]; omega)] at hsrc
      refine R1.append (hx.trans hx1) hsrc (by rw [inC_len, List.length_drop]) inC_one (by omega) (by omega) fun A2 c2 H2 R2 x2 ch2 nw2 _ => ?_
      have keep2 : ∀ b, H' b ≠ none → H2 b = H' b := fun b hb => by
        refine Eq.trans (Classical.byContradiction fun hne => ?_) (upd_off (fun e : b = g => hb (by rw [e]; exact hg)) : (upd g (.cells [Value.int .i64 n].toArray 3 (0, 0)) H') b = H' b)
        rcases (ch2 b hne).2 with ⟨o', q, e⟩ | h
        · cases e; exact hb hg
        · rw [upd_off (fun e : b = g => hb (by rw [e]; exact hg))] at h; exact hb h
      have Rh : RowI H0 H2 A i (l.take i) := Row.keep (R.head hi) (fun b hb => keep2 b (R.lt hb).1)
      have hl : (l.take i).length = i := by rw [List.length_take]; omega
      unfold RowI at Rh
      rw [hl] at Rh
      refine Rh.append x2 R2.cells R2.1 (fun v hv => ?_) (by omega) (by omega) fun A3 c3 H3 R3 x3 ch3 nw3 _ => ?_
      · have : v ∈ ([n] ++ l.drop i).flatMap inC := by rw [List.flatMap_append]; simpa [inC] using hv
        exact inC_one v this
      have en : i + (1 + (l.length - i)) = (addM l n).length := by rw [elen]; omega
      have := hq A3 c3 H3 ?_ x3 (fun b hb => ?_) (fun b hb => ?_)
      · rw [← en] at this; exact this
      · unfold RowI
        rw [en] at R3
        rw [e] at R3 ⊢
        rw [List.flatMap_append, List.flatMap_cons]
        exact R3
      · by_cases hn' : H' b = none
        · exact .inr hn'
        · have : H3 b ≠ H2 b := fun h => hb (h.trans (keep2 b hn'))
          rcases (ch3 b this).2 with h | h
          · exact .inl h
          · rw [keep2 b hn'] at h; exact .inr h
      · rcases nw3 b hb with h | h
        · exact .inl h
        · by_cases hn' : H' b = none
          · exact .inr hn'
          · rw [keep2 b hn'] at h; exact .inr h
    · by_cases hil : i < l.length
      · obtain ⟨x, hx'⟩ := get_of hil
        refine cndT (by simpa using hil) ⟨by omega, by omega, rd_in hA hx' fun p o _ k1 => ⟨x, by simpa using k1, ?_⟩⟩
        cases he : (x == n) with
        | true => exact hJ.1 ⟨x, hx', by simpa using he⟩
        | false =>
          refine hJ.2 fun hm => ?_
          obtain ⟨k, hk⟩ := List.getElem?_of_mem hm
          have hki : i ≤ k := by
            refine Classical.byContradiction fun h => ?_
            have := hlt k n (by omega) hk
            omega
          have hne : x ≠ n := by simpa using he
          have hxn := hge i x (Nat.le_refl _) hx'
          by_cases e : i = k
          · subst e; rw [hx'] at hk; cases hk; exact hne rfl
          · have := strict_lt hst (by omega : i < k) hx' hk; omega
      · refine cndF (by simp; omega) (hJ.2 fun hm => ?_)
        obtain ⟨k, hk⟩ := List.getElem?_of_mem hm
        have hkl := (List.getElem?_eq_some_iff.1 hk).1
        have := hlt k n (by omega) hk
        omega
  · by_cases hp : 0 < i
    · obtain ⟨x, hx'⟩ := get_of (l := l) (i := i - 1) (by omega)
      rw [show IntKind.i64.wrap ((i : Int) - 1) = ((i - 1 : Nat) : Int) by rw [wrap_id (by omega) (by omega)]; omega]
      refine cndT (by simpa using hp) ⟨by omega, by omega, rd_in hA hx' fun p o _ k1 => ⟨x, by simpa using k1, ?_⟩⟩
      cases he : decide (x ≥ n) with
      | true => exact hJ.1 ⟨x, hp, hx', of_decide_eq_true he⟩
      | false =>
        have he := of_decide_eq_false he
        refine hJ.2 fun k y hk hy => ?_
        by_cases e : k = i - 1
        · subst e; rw [hx'] at hy; cases hy; omega
        · have := strict_lt hst (by omega : k < i - 1) hy hx'; omega
    · exact cndF (by simp; omega) (hJ.2 fun k x hk => by omega)
end
end Go.Proofs.YtkbancdmhcnhjaaGreat.Hw
