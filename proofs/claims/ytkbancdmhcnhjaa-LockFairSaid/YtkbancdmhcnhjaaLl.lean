/- Locks: rising numbers; the reference's add, all, Waited. -/
import Derived.Test.YtkbancdmhcnhjaaLk
set_option linter.unusedVariables false
set_option linter.unusedSimpArgs false
namespace Go.Proofs.Ytkbancdmhcnhjaa.Hw
open Go Go.Proofs
/-- Rising without doubles. -/
def Strict (l : List Int) : Prop := l.Pairwise (· < ·)
def addM (l : List Int) (n : Int) : List Int := if n ∈ l then l else l.filter (· < n) ++ n :: l.filter (n < ·)
theorem strict_split : ∀ {l : List Int} {n : Int}, Strict l → n ∉ l → l = l.filter (· < n) ++ l.filter (n < ·)
  | [], n, _, _ => rfl
  | a :: r, n, h, hn => by
    have hr : Strict r := List.Pairwise.of_cons h
    have ha : ∀ x ∈ r, a < x := fun x hx => List.rel_of_pairwise_cons h hx
    have hne : a ≠ n := fun e => hn (e ▸ List.mem_cons_self)
    by_cases hlt : a < n
    · have h2 : ¬ n < a := by omega
      rw [List.filter_cons, List.filter_cons, if_pos (by simpa using hlt), if_neg (by simpa using h2), List.cons_append, ← strict_split hr (fun h => hn (List.mem_cons_of_mem _ h))]
    · have h2 : n < a := by omega
      have e1 : r.filter (· < n) = [] := by
        rw [List.filter_eq_nil_iff]
        intro x hx
        have := ha x hx
        simp; omega
      have e2 : r.filter (n < ·) = r := by
        rw [List.filter_eq_self]
        intro x hx
        have := ha x hx
        simp; omega
      rw [List.filter_cons, List.filter_cons, if_neg (by simpa using hlt), if_pos (by simpa using h2), e1, e2]; rfl
theorem mem_add {l : List Int} {n x : Int} (h : Strict l) : x ∈ addM l n ↔ x = n ∨ x ∈ l := by
  unfold addM
  split
  · rename_i hm
    exact ⟨.inr, fun h => h.elim (fun e => e ▸ hm) id⟩
  · rename_i hm
    have := strict_split h hm
    conv => rhs; rw [this]
    simp only [List.mem_append, List.mem_cons]
    constructor
    · rintro (h | h | h)
      · exact .inr (.inl h)
      · exact .inl h
      · exact .inr (.inr h)
    · rintro (h | h | h)
      · exact .inr (.inl h)
      · exact .inl h
      · exact .inr (.inr h)
theorem strict_add {l : List Int} {n : Int} (h : Strict l) : Strict (addM l n) := by
  unfold addM
  split
  · exact h
  · unfold Strict
    rw [List.pairwise_append, List.pairwise_cons]
    refine ⟨h.sublist List.filter_sublist, ⟨fun x hx => by simpa using (List.mem_filter.1 hx).2, h.sublist List.filter_sublist⟩, fun x hx y hy => ?_⟩
    have h1 : x < n := by simpa using (List.mem_filter.1 hx).2
    rcases List.mem_cons.1 hy with rfl | hy
    · exact h1
    · have h2 : n < y := by simpa using (List.mem_filter.1 hy).2
      omega
def rise (l : List Int) : List Int := l.foldl addM []
theorem rise_snoc {l : List Int} {x : Int} : rise (l ++ [x]) = addM (rise l) x := by unfold rise; rw [List.foldl_append]; rfl
theorem rise_all {l : List Int} : Strict (rise l) ∧ ∀ x, x ∈ rise l ↔ x ∈ l := by
  have key : ∀ (l acc : List Int), Strict acc → Strict (l.foldl addM acc) ∧ ∀ x, x ∈ l.foldl addM acc ↔ x ∈ acc ∨ x ∈ l := by
    intro l
    induction l with
    | nil => intro acc h; exact ⟨h, fun x => by simp⟩
    | cons a r ih =>
      intro acc h
      obtain ⟨h1, h2⟩ := ih (addM acc a) (strict_add h)
      refine ⟨h1, fun x => ?_⟩
      rw [List.foldl_cons, h2, mem_add h, List.mem_cons]
      constructor
      · rintro ((h | h) | h)
        · exact .inr (.inl h)
        · exact .inl h
        · exact .inr (.inr h)
      · rintro (h | h | h)
        · exact .inl (.inr h)
        · exact .inl (.inl h)
        · exact .inr h
  obtain ⟨h1, h2⟩ := key l [] List.Pairwise.nil
  exact ⟨h1, fun x => by unfold rise; have := h2 x; simpa using this⟩
theorem strict_rise {l : List Int} : Strict (rise l) := rise_all.1
theorem mem_rise {l : List Int} {x : Int} : x ∈ rise l ↔ x ∈ l := rise_all.2 x
theorem strict_ext : ∀ {a b : List Int}, Strict a → Strict b → (∀ x, x ∈ a ↔ x ∈ b) → a = b
  | [], [], _, _, _ => rfl
  | [], y :: b, _, _, h => by have := (h y).2 List.mem_cons_self; cases this
  | x :: a, [], _, _, h => by have := (h x).1 List.mem_cons_self; cases this
  | x :: a, y :: b, ha, hb, h => by
    have hx : ∀ z ∈ a, x < z := fun z hz => List.rel_of_pairwise_cons ha hz
    have hy : ∀ z ∈ b, y < z := fun z hz => List.rel_of_pairwise_cons hb hz
    have e : x = y := by
      have h1 := (h x).1 List.mem_cons_self
      have h2 := (h y).2 List.mem_cons_self
      rcases List.mem_cons.1 h1 with h1 | h1
      · exact h1
      · rcases List.mem_cons.1 h2 with h2 | h2
        · exact h2.symm
        · have := hy x h1; have := hx y h2; omega
    subst e
    congr 1
    refine strict_ext (List.Pairwise.of_cons ha) (List.Pairwise.of_cons hb) fun z => ⟨fun hz => ?_, fun hz => ?_⟩
    · rcases List.mem_cons.1 ((h z).1 (List.mem_cons_of_mem _ hz)) with e | hz'
      · have := hx z hz; omega
      · exact hz'
    · rcases List.mem_cons.1 ((h z).2 (List.mem_cons_of_mem _ hz)) with e | hz'
      · have := hy z hz; omega
      · exact hz'
theorem strict_nodup {l : List Int} (h : Strict l) : l.Nodup := h.imp (fun h e => by omega)
theorem strict_lt {l : List Int} {i j : Nat} {x y : Int} (h : Strict l) (hij : i < j) (hx : l[i]? = some x) (hy : l[j]? = some y) : x < y := by
  obtain ⟨hi, rfl⟩ := List.getElem?_eq_some_iff.1 hx
  obtain ⟨hj, rfl⟩ := List.getElem?_eq_some_iff.1 hy
  exact List.pairwise_iff_getElem.1 h i j hi hj hij
/-- Of a rising list: where a number would stand. -/
theorem strict_cut {l : List Int} {n : Int} {i : Nat} (hi : i ≤ l.length) (h1 : ∀ k x, k < i → l[k]? = some x → x < n) (h2 : ∀ k x, i ≤ k → l[k]? = some x → n ≤ x) (hn : n ∉ l) : l.filter (· < n) = l.take i ∧ l.filter (n < ·) = l.drop i := by
  have hs : l = l.take i ++ l.drop i := (List.take_append_drop i l).symm
  have t1 : ∀ x ∈ l.take i, x < n := fun x hx => by
    obtain ⟨k, hk⟩ := List.getElem?_of_mem hx
    rw [List.getElem?_take] at hk
    split at hk
    · exact h1 k x ‹_› hk
    · cases hk
  have t2 : ∀ x ∈ l.drop i, n < x := fun x hx => by
    obtain ⟨k, hk⟩ := List.getElem?_of_mem hx
    rw [List.getElem?_drop] at hk
    have := h2 _ x (by omega) hk
    have hne : x ≠ n := fun e => hn (e ▸ List.mem_of_getElem? hk)
    omega
  constructor
  · conv => lhs; rw [hs]
    rw [List.filter_append, List.filter_eq_self.2 (fun x hx => by simpa using t1 x hx), List.filter_eq_nil_iff.2 (fun x hx => by have := t2 x hx; simp; omega), List.append_nil]
  · conv => lhs; rw [hs]
    rw [List.filter_append, List.filter_eq_nil_iff.2 (fun x hx => by have := t1 x hx; simp; omega), List.filter_eq_self.2 (fun x hx => by simpa using t2 x hx), List.nil_append]
theorem add_len {l : List Int} {n : Int} (h : Strict l) : (addM l n).length ≤ l.length + 1 := by
  unfold addM
  split
  · omega
  · rename_i hm
    have := congrArg List.length (strict_split h hm)
    rw [List.length_append] at this
    rw [List.length_append, List.length_cons]; omega
section
variable {H0 H : Hp} {Q : Value → Hp → Prop}
theorem RowI.at {A : Option Addr} {c : Nat} {l : List Int} (R : RowI H0 H A c l) (hs : l.length < big) : SlAt inC H A l.length l := ⟨rfl, R.cells, by unfold big at hs; unfold huge; omega⟩
theorem RowI.more {H' : Hp} {A : Option Addr} {c : Nat} {l : List Int} (R : RowI H0 H A c l) (hx : Ext H H') : RowI H0 H' A c l := Row.keep R (fun b hb => ext_at hx (R.lt hb).1)
theorem RowI.head {A : Option Addr} {c p : Nat} {l : List Int} (R : RowI H0 H A c l) (hp : p ≤ l.length) : RowI H0 H A p (l.take p) := by
  obtain ⟨h1, h2, h3⟩ := R
  have hl : (l.take p).length = p := by rw [List.length_take]; omega
  refine ⟨by rw [inC_len], by omega, ?_⟩
  rcases h3 with ⟨rfl, hc⟩ | ⟨b, cs, ty, rfl, hb, hcl, ht, hz⟩
  · exact .inl ⟨rfl, by omega⟩
  · refine .inr ⟨b, cs, ty, rfl, hb, by omega, ?_, hz⟩
    have : l.flatMap inC = (l.take p).flatMap inC ++ (l.drop p).flatMap inC := by rw [← List.flatMap_append, List.take_append_drop]
    rw [this] at ht
    have e : cs.take ((l.take p).length * 1) = (cs.take (l.length * 1)).take (p * 1) := by rw [List.take_take, Nat.min_eq_left (by omega), hl]
    rw [e, ht, List.take_left' (by rw [inC_len, hl])]
end
end Go.Proofs.Ytkbancdmhcnhjaa.Hw
