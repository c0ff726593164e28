/- Locks: the reference's circle. -/
import Derived.Test.YtkbancdmhcnhjaaGreatNd
set_option linter.unusedVariables false
set_option linter.unusedSimpArgs false
namespace Go.Proofs.YtkbancdmhcnhjaaGreat.Hw
open Go Go.Proofs
/-- A row of the search, with its slice. -/
structure RR where
  A : Option Addr
  c : Nat
  r : List Int
def rrC (x : RR) : List Value := [.slice x.A x.r.length x.c]
theorem rrC_len {l : List RR} : (l.flatMap rrC).length = l.length * 1 := flat_length (fun _ _ => rfl)
theorem rd_rr {H : Hp} {A : Option Addr} {n : Nat} {l : List RR} {i : Nat} {x : RR} (h : SlAt rrC H A n l) (hi : l[i]? = some x) {K : Nat → Nat → Prop}
    (hk : ∀ p o, A = some ⟨p, o, none⟩ → cl H p (o + i) = some (.slice x.A x.r.length x.c) → K p o) : onPtr A K := by
  have hlen : ∀ x ∈ l, (rrC x).length = 1 := fun x _ => rfl
  have hne : l ≠ [] := fun e => by subst e; simp at hi
  refine at_cells h.cells (flat_ne hlen (by omega) hne) fun p o hA hc => hk p o hA ?_
  have := hc (i * 1 + 0) _ (flat_get hlen hi (by omega))
  rw [Nat.mul_one, Nat.add_zero] at this
  exact this
theorem get_last {r : List Int} (h : r ≠ []) : r[r.length - 1]? = some (lastD r) := by
  unfold lastD
  rw [← List.getLast?_eq_getElem?]
  cases hl : r.getLast? with
  | none => rw [List.getLast?_eq_none_iff] at hl; exact absurd hl h
  | some x => rfl
theorem fold_succ {α β : Type} {f : β → α → β} {l : List α} {i : Nat} {x : α} {a : β} (h : l[i]? = some x) : (l.take (i + 1)).foldl f a = f ((l.take i).foldl f a) x := by
  rw [List.take_add_one, h, List.foldl_append]; rfl
theorem find_none_take {α : Type} {g : α → Bool} {l : List α} (h : ∀ (k : Nat) x, l[k]? = some x → g x = false) : l.find? g = none := by
  rw [List.find?_eq_none]
  intro x hx hg
  obtain ⟨k, hk⟩ := List.getElem?_of_mem hx
  rw [h k x hk] at hg; cases hg
section
variable {H0 H : Hp} {Q : Value → Hp → Prop}
theorem fork {A : Option Addr} {r : List Int} {m : Int} {g : Nat} {K : Option Addr → Nat → Nat → Hp → Prop} (hA : cellsAt H A (r.flatMap inC)) (hr : r.length < big) (hg : H g = none)
    (hk : ∀ A' c' H', RowI H H' A' c' (r ++ [m]) → Ext H H' → K A' (r ++ [m]).length c' H') : appendF (upd g (.cells [Value.int .i64 m].toArray 3 (0, 0)) H) 3 1 8 A r.length r.length (some ⟨g, 0, none⟩) 1 K := by
  unfold big at hr
  have hx1 : Ext H (upd g (.cells [Value.int .i64 m].toArray 3 (0, 0)) H) := Ext.new hg
  refine ⟨by omega, by omega, [Value.int .i64 m], rfl, .inr ⟨g, 0, rfl, fun j v hj => by rw [cl_cells upd_at, Nat.zero_add]; exact hj⟩, fun v hv => by rw [List.mem_singleton.1 hv]; rfl, fun h => by omega, fun _ => ⟨r.flatMap inC, inC_len, cellsAt_ext hx1 hA, fun b cap rest hb hcap hmax hrest => ?_⟩⟩
  have hbH := hx1.none hb
  have hx2 := hx1.trans (Ext.new (o := .cells (r.flatMap inC ++ [Value.int .i64 m] ++ rest).toArray 3 (0, 0)) hb)
  have hl : (r ++ [m]).length = r.length + 1 := by simp
  have hvl : (r.flatMap inC).length = r.length * 1 := inC_len
  have := hk (some ⟨b, 0, none⟩) cap _ ⟨by rw [inC_len], by omega, .inr ⟨b, _, 3, rfl, upd_at, by simp only [List.length_append, List.length_singleton]; omega, ?_, hbH⟩⟩ hx2
  · rw [hl] at this; exact this
  · rw [List.flatMap_append, hl]
    refine List.take_left' ?_
    rw [List.length_append, hvl]; simp
theorem Row.push1x {α : Type} {f : α → List Value} {k ty eby : Nat} (hf : ∀ x, (f x).length = k) (ho : ∀ x, ∀ v ∈ f x, v.oneCell' = true) (he : eby ≤ 100) {S : Option Addr} {c g : Nat} {st : List α} {w : α} {K : Option Addr → Nat → Nat → Hp → Prop} (R : Row H0 H S st.length c k (st.flatMap f)) (hx : Ext H0 H) (hs : st.length < big) (hg : H g = none)
    (hk : ∀ A' c' H', Row H0 H' A' (st ++ [w]).length c' k ((st ++ [w]).flatMap f) → Ext H0 H' → (∀ b, H' b ≠ H b → rowB S b ∨ H b = none) → (∀ b, rowB A' b → rowB S b ∨ H b = none) → (∀ b, H b ≠ none → H' b ≠ none) → K A' (st ++ [w]).length c' H') :
    appendF (upd g (.cells (f w).toArray ty (0, 0)) H) ty k eby S st.length c (some ⟨g, 0, none⟩) 1 K := by
  unfold big at hs
  have hx1 : Ext H (upd g (.cells (f w).toArray ty (0, 0)) H) := Ext.new hg
  have R1 := Row.keep R (fun b hb => ext_at hx1 (R.lt hb).1)
  have hroom : (st.length + 1) * eby ≤ 1000000000001 * 100 := Nat.mul_le_mul (by omega) he
  refine R1.append (hx.trans hx1) (new := f w) (.inr ⟨g, 0, rfl, fun j v hj => by rw [cl_cells upd_at, Nat.zero_add]; exact hj⟩) (by rw [hf]; omega) (ho w) (by omega) (by omega) fun A' c' H' R' x' ch nw _ => ?_
  have old : ∀ b, (upd g (.cells (f w).toArray ty (0, 0)) H) b = none → H b = none := fun b h => hx1.none h
  have := hk A' c' H' (by rw [List.length_append, List.flatMap_append]; simpa using R') x' (fun b hb => ?_) (fun b hb => (nw b hb).imp id (old b)) (fun b hb h0 => ?_)
  · rw [List.length_append] at this; exact this
  · by_cases e : b = g
    · subst e; exact .inr hg
    · have : H' b ≠ (upd g (.cells (f w).toArray ty (0, 0)) H) b := by rw [upd_off e]; exact hb
      exact (ch b this).2.imp id (old b)
  · by_cases e : H' b = (upd g (.cells (f w).toArray ty (0, 0)) H) b
    · exact hb (old b (e ▸ h0))
    · exact (R'.lt (ch b e).1).1 h0
/-- A level that is being made. -/
structure LvI (HL H : Hp) (TA : Option Addr) (tc : Nat) (SA : Option Addr) (sc : Nat) (rs : List RR) (seen : List Int) : Prop where
  ext : Ext HL H
  tab : Row HL H TA rs.length tc 1 (rs.flatMap rrC)
  sn : RowI HL H SA sc seen
  row : ∀ x ∈ rs, RowI HL H x.A x.c x.r
  ts : ∀ b, rowB TA b → ¬ rowB SA b
  rt : ∀ x ∈ rs, ∀ b, rowB x.A b → ¬ rowB TA b ∧ ¬ rowB SA b
theorem LvI.more {HL H' : Hp} {TA SA : Option Addr} {tc sc : Nat} {rs : List RR} {seen : List Int} (I : LvI HL H TA tc SA sc rs seen) (hx : Ext H H') : LvI HL H' TA tc SA sc rs seen :=
  ⟨I.ext.trans hx, Row.keep I.tab fun b hb => ext_at hx (I.tab.lt hb).1, Row.keep I.sn fun b hb => ext_at hx (Row.lt I.sn hb).1, fun x hm => Row.keep (I.row x hm) fun b hb => ext_at hx (Row.lt (I.row x hm) hb).1, I.ts, I.rt⟩
theorem LvI.add {HL : Hp} {TA SA A : Option Addr} {tc sc : Nat} {rs : List RR} {seen r : List Int} {m : Int} {K : Option Addr → Nat → Nat → Option Addr → Nat → Nat → Hp → Prop} (I : LvI HL H TA tc SA sc rs seen) (hA : cellsAt HL A (r.flatMap inC)) (hr : r.length < big) (hl1 : rs.length < big) (hl2 : seen.length < big)
    (hk : ∀ TA' tc' SA' sc' B d H', LvI HL H' TA' tc' SA' sc' (rs ++ [RR.mk B d (r ++ [m])]) (seen ++ [m]) → (∀ b, H b ≠ none → ¬ rowB TA b → ¬ rowB SA b → H' b = H b) → (∀ b, rowB TA' b → rowB TA b ∨ H b = none) → (∀ b, rowB SA' b → rowB SA b ∨ H b = none) → K TA' (rs ++ [RR.mk B d (r ++ [m])]).length tc' SA' (seen ++ [m]).length sc' H') :
    newF H 3 [.int .i64 m] fun g47 H48 => appendF H48 3 1 8 SA seen.length sc (some ⟨g47, 0, none⟩) 1 fun A49 n49 c49 H50 => newF H50 3 [.int .i64 m] fun g51 H52 => appendF H52 3 1 8 A r.length r.length (some ⟨g51, 0, none⟩) 1 fun A53 n53 c53 H54 => newF H54 38 [.slice A53 n53 c53] fun g55 H56 => appendF H56 38 1 24 TA rs.length tc (some ⟨g55, 0, none⟩) 1 fun A57 n57 c57 H58 => K A57 n57 c57 A49 n49 c49 H58 := by
  intro g47 hg47
  refine Row.push1x (f := inC) (w := m) (fun _ => rfl) (fun y v hv => by rw [List.mem_singleton.1 hv]; rfl) (by omega) I.sn I.ext hl2 hg47 fun A49 c49 H50 R50 x50 ch50 nw50 dom50 => ?_
  have R50 : RowI HL H50 A49 c49 (seen ++ [m]) := R50
  have keep50 : ∀ b, H b ≠ none → ¬ rowB SA b → H50 b = H b := fun b hn hb => Classical.byContradiction fun hne => by
    rcases ch50 b hne with h | h
    · exact hb h
    · exact hn h
  have tab50 := Row.keep I.tab fun b hb => keep50 b (I.tab.lt hb).1 (I.ts b hb)
  have row50 : ∀ x ∈ rs, RowI HL H50 x.A x.c x.r := fun x hm => Row.keep (I.row x hm) fun b hb => keep50 b (Row.lt (I.row x hm) hb).1 (I.rt x hm b hb).2
  intro g51 hg51
  refine fork (cellsAt_ext x50 hA) hr hg51 fun A53 c53 H54 R54 x54 => ?_
  have R54' : RowI HL H54 A53 c53 (r ++ [m]) := Row.base R54 x50
  have tab54 := Row.keep tab50 fun b hb => ext_at x54 (tab50.lt hb).1
  have sn54 : RowI HL H54 A49 c49 (seen ++ [m]) := Row.keep R50 fun b hb => ext_at x54 (Row.lt R50 hb).1
  have row54 : ∀ x ∈ rs, RowI HL H54 x.A x.c x.r := fun x hm => Row.keep (row50 x hm) fun b hb => ext_at x54 (Row.lt (row50 x hm) hb).1
  have old54 : ∀ b, H54 b = none → H b = none := fun b h => Classical.byContradiction fun hn => dom50 b hn (x54.none h)
  intro g55 hg55
  refine Row.push1x (f := rrC) (w := RR.mk A53 c53 (r ++ [m])) (fun _ => rfl) (fun y v hv => by rw [List.mem_singleton.1 hv]; rfl) (by omega) tab54 (x50.trans x54) hl1 hg55 fun A57 c57 H58 R58 x58 ch58 nw58 _ => ?_
  have keep58 : ∀ b, H54 b ≠ none → ¬ rowB TA b → H58 b = H54 b := fun b hn hb => Classical.byContradiction fun hne => by
    rcases ch58 b hne with h | h
    · exact hb h
    · exact hn h
  have sT : ∀ b, rowB A49 b → ¬ rowB TA b := fun b hb ht => by
    rcases nw50 b hb with h | h
    · exact I.ts b ht h
    · exact (I.tab.lt ht).1 h
  refine hk A57 c57 A49 c49 A53 c53 H58 ⟨x58, R58, Row.keep sn54 fun b hb => keep58 b (Row.lt sn54 hb).1 (sT b hb), fun x hx => ?_, fun b h57 h49 => ?_, fun x hx b hb => ?_⟩ (fun b hn hT hS => ?_) (fun b hb => (nw58 b hb).imp id (old54 b)) nw50
  · rcases List.mem_append.1 hx with hx | hx
    · exact Row.keep (row54 x hx) fun b hb => keep58 b (Row.lt (row54 x hx) hb).1 (I.rt x hx b hb).1
    · obtain rfl := List.mem_singleton.1 hx
      exact Row.keep R54' fun b hb => keep58 b (Row.lt R54' hb).1 fun ht => (tab50.lt ht).1 (Row.lt R54 hb).2
  · rcases nw58 b h57 with h | h
    · exact sT b h49 h
    · exact (Row.lt sn54 h49).1 h
  · rcases List.mem_append.1 hx with hx | hx
    · refine ⟨fun h57 => ?_, fun h49 => ?_⟩
      · rcases nw58 b h57 with h | h
        · exact (I.rt x hx b hb).1 h
        · exact (Row.lt (row54 x hx) hb).1 h
      · rcases nw50 b h49 with h | h
        · exact (I.rt x hx b hb).2 h
        · exact (Row.lt (I.row x hx) hb).1 h
    · obtain rfl := List.mem_singleton.1 hx
      refine ⟨fun h57 => ?_, fun h49 => (Row.lt R50 h49).1 (Row.lt R54 hb).2⟩
      rcases nw58 b h57 with h | h
      · exact (tab50.lt h).1 (Row.lt R54 hb).2
      · exact (Row.lt R54 hb).1 h
  · have e50 := keep50 b hn hS
    have e54 : H54 b = H50 b := ext_at x54 (by rw [e50]; exact hn)
    have e58 := keep58 b (by rw [e54, e50]; exact hn) hT
    rw [e58, e54, e50]
end
end Go.Proofs.YtkbancdmhcnhjaaGreat.Hw
