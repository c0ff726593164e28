/- Locks: Insert, give; the reference's take. -/
import Derived.Test.YtkbancdmhcnhjaaLe
set_option linter.unusedVariables false
set_option linter.unusedSimpArgs false
namespace Go.Proofs.Ytkbancdmhcnhjaa.Hw
open Go Go.Proofs
theorem setR_mid {P V W R : List Value} (h : V.length = W.length) : setR (P ++ V ++ R) P.length W = P ++ W ++ R := by
  unfold setR
  rw [List.append_assoc P V R, List.take_left, ← List.append_assoc P V R, List.drop_left' (by rw [List.length_append, h])]
theorem setR_at {P V W R L : List Value} {o : Nat} (hL : L = P ++ V ++ R) (ho : o = P.length) (h : V.length = W.length) : setR L o W = P ++ W ++ R := by
  subst hL; subst ho; exact setR_mid h
theorem cut_zero {A : Option Addr} {k : Nat} {s : Bool} : cutA A (0 * k) s = A := by
  unfold cutA
  cases s with
  | true => rfl
  | false =>
    cases A with
    | none => rfl
    | some a => simp only [Option.map_some, Nat.zero_mul]; congr 1
theorem cut_some {b o k : Nat} : cutA (some ⟨b, o, none⟩) k false = some ⟨b, o + k, none⟩ := by
  unfold cutA
  simp only [Option.map_some, Option.some.injEq]
  unfold Addr.add
  by_cases h : k = 0
  · rw [h]; rfl
  · simp [h]
theorem len_flat {α : Type} {z : List α} : ∀ {n : Nat}, ((List.replicate n z).flatten).length = n * z.length
  | 0 => by simp
  | n + 1 => by rw [List.replicate_succ, List.flatten_cons, List.length_append, len_flat (n := n), Nat.add_mul]; omega
theorem upd_twice {α : Type} {b : Nat} {x y : α} {H : Nat → Option α} : upd b x (upd b y H) = upd b x H := by
  funext z
  by_cases h : z = b
  · subst h; rw [upd_at, upd_at]
  · rw [upd_off h, upd_off h, upd_off h]
theorem wrap_add {a b : Nat} (h : a + b < 4611686018427387904) : IntKind.i64.wrap ((a : Int) + (b : Int)) = ((a + b : Nat) : Int) := by rw [wrap_id (by omega) (by omega)]; omega
section
variable {H0 H : Hp} {Q : Value → Hp → Prop}
def insL (l : List Lk) (p : Nat) (x : Lk) : List Lk := l.take p ++ x :: l.drop p
theorem insL_cells {l : List Lk} {p : Nat} {x : Lk} : (insL l p x).flatMap lkC = (l.take p).flatMap lkC ++ lkC x ++ (l.drop p).flatMap lkC := by
  unfold insL; rw [List.flatMap_append, List.flatMap_cons, ← List.append_assoc]
theorem insL_len {l : List Lk} {p : Nat} {x : Lk} (h : p ≤ l.length) : (insL l p x).length = l.length + 1 := by
  unfold insL; rw [List.length_append, List.length_cons, List.length_take, List.length_drop]; omega
theorem c62 {A : Option Addr} {c g : Nat} {l : List Lk} {x : Lk} {p : Nat} (R : Row H0 H A l.length c 3 (l.flatMap lkC)) (hx : Ext H0 H) (hs : l.length < big) (hp : p ≤ l.length) (hg : H g = some (.cells (lkC x).toArray 67 (0, 0))) (hgr : ¬ rowB A g)
    (hq : ∀ A' c' H', Row H0 H' A' (l.length + 1) c' 3 ((insL l p x).flatMap lkC) → Ext H0 H' → (∀ b, H' b ≠ H b → rowB A b ∨ H b = none) → (∀ b, rowB A' b → rowB A b ∨ H b = none) → Q (.slice A' (l.length + 1) c') H') :
    HCalls Try.prog 62 [.slice A l.length c, .int .i64 p, .slice (some ⟨g, 0, none⟩) 1 1] H Q := by
  refine f62.ok _ _ _ _ _ _ _ ?_
  unfold f62
  unfold big at hs
  have hgc : cellsAt H (some ⟨g, 0, none⟩) (lkC x) := .inr ⟨g, 0, rfl, fun j v hj => by rw [cl_cells hg, Nat.zero_add]; exact hj⟩
  have hx3 : (lkC x).length = 1 * 3 := rfl
  have hx1 : ∀ v ∈ lkC x, v.oneCell' = true := fun v hv => by
    simp only [lkC, List.mem_cons, List.not_mem_nil, or_false] at hv
    rcases hv with rfl | rfl | rfl <;> rfl
  refine ⟨by omega, by omega, cndF (by simp) (cndI (fun he => ?_) (fun hne => ?_))⟩
  · have he : p = l.length := by
      have : (p : Int) = (l.length : Int) := by simpa using he
      omega
    subst he
    refine R.append hx hgc hx3 hx1 (by omega) (by omega) fun A' c' H' R' hx' hch hnew _ => hq A' c' H' ?_ hx' (fun b hb => (hch b hb).2) hnew
    unfold insL
    rw [List.take_length, List.drop_length, List.flatMap_append]
    simpa using R'
  have hlt : p < l.length := by
    have : (p : Int) ≠ (l.length : Int) := by simpa using hne
    omega
  have hcells := R.cells
  have hP : ((l.take p).flatMap lkC).length = p * 3 := by rw [lkC_len, List.length_take, Nat.min_eq_left hp]
  have hD : ((l.drop p).flatMap lkC).length = (l.length - p) * 3 := by rw [lkC_len, List.length_drop]
  have hPD : l.flatMap lkC = (l.take p).flatMap lkC ++ (l.drop p).flatMap lkC := by rw [← List.flatMap_append, List.take_append_drop]
  have hPc : cellsAt H A ((l.take p).flatMap lkC) := by
    have := cells_cut (f := lkC) (k := 3) (fun _ => rfl) (l := l) (p := 0) (m := p) (stay := true) hcells
    rcases hcells with h | ⟨b, o, hA, hc⟩
    · rw [hPD] at h
      exact .inl (List.append_eq_nil_iff.1 h).1
    · refine .inr ⟨b, o, hA, fun j v hj => hc j v ?_⟩
      rw [hPD, List.getElem?_append_left (List.getElem?_eq_some_iff.1 hj).1]
      exact hj
  have hDo : ∀ v ∈ (l.drop p).flatMap lkC, v.oneCell' = true := lkC_one
  rw [show ((1 : Nat) : Int) = (1 : Nat) from rfl, wrap_add (by omega : l.length + 1 < _), wrap_add (by omega : p + 1 < _)]
  simp only [Int.toNat_natCast, Nat.sub_zero, cut_zero]
  have hcap := R.2.1
  refine cndI (fun hgrow => ?_) (fun hroom => ?_)
  · have hgrow : c < l.length + 1 := by have := of_decide_eq_true hgrow; omega
    have hk : IntKind.i64.wrap (((l.length + 1 : Nat) : Int) - (p : Int)) = ((l.length + 1 - p : Nat) : Int) := by rw [wrap_id (by omega) (by omega)]; omega
    rw [hk]
    simp only [appendZF, Int.toNat_natCast]
    refine ⟨by omega, by omega, by omega, by omega, by omega, by omega, (l.take p).flatMap lkC, hP, hPc, fun b cap rest hb hcapn hcm hrl => ?_⟩
    have hpn : p + (l.length + 1 - p) = l.length + 1 := by omega
    rw [hpn] at hcapn hrl ⊢
    have hZ : ((List.replicate (l.length + 1 - p) [Value.string ByteArray.empty, .int .i64 0, .bool false]).flatten).length = (l.length + 1 - p) * 3 := by
      rw [len_flat]; rfl
    generalize (List.replicate (l.length + 1 - p) [Value.string ByteArray.empty, .int .i64 0, .bool false]).flatten = Z at hZ ⊢
    have hZs : Z = Z.take 3 ++ Z.drop 3 := (List.take_append_drop 3 Z).symm
    have hZ1 : (Z.take 3).length = 3 := by rw [List.length_take, hZ]; omega
    have hZ2 : (Z.drop 3).length = (l.length - p) * 3 := by rw [List.length_drop, hZ]; omega
    have hx4 : Ext H (upd b (.cells ((l.take p).flatMap lkC ++ Z ++ rest).toArray 67 (0, 0)) H) := Ext.new hb
    have hbg : b ≠ g := fun e => by rw [e, hg] at hb; cases hb
    have hd1 : decide (cap = p) = false := decide_eq_false (by omega)
    have hd2 : decide (cap = p + 1) = false := decide_eq_false (by omega)
    rw [hd1, hd2, cut_some, cut_some]
    simp only [Nat.zero_add]
    refine ⟨by omega, by omega, fun h0 => by omega, fun _ => ⟨lkC x, ?_, cellsAt_ext hx4 hgc, hx1, ?_⟩⟩
    · rw [show min 1 (l.length + 1 - p) = 1 by omega]; rfl
    refine ⟨_, 67, upd_at, by rw [List.length_append, List.length_append, hP, hZ, show (lkC x).length = 3 from rfl]; omega, ?_⟩
    have e1 : setR ((l.take p).flatMap lkC ++ Z ++ rest) (p * 3) (lkC x) = ((l.take p).flatMap lkC ++ lkC x) ++ Z.drop 3 ++ rest := by
      rw [setR_at (P := (l.take p).flatMap lkC) (V := Z.take 3) (R := Z.drop 3 ++ rest) (by rw [List.append_assoc, List.append_assoc, ← List.append_assoc (Z.take 3), List.take_append_drop]) (by rw [hP]) (by rw [hZ1]; rfl)]
      simp [List.append_assoc]
    rw [e1, upd_twice]
    have hx5 : Ext H (upd b (.cells (((l.take p).flatMap lkC ++ lkC x) ++ Z.drop 3 ++ rest).toArray 67 (0, 0)) H) := Ext.new hb
    refine ⟨by omega, by omega, by omega, by omega, fun h0 => by omega, fun _ => ⟨(l.drop p).flatMap lkC, ?_, ?_, hDo, ?_⟩⟩
    · rw [show min (l.length - p) (l.length + 1 - (p + 1)) = l.length - p by omega]; exact hD
    · have := cells_cut (f := lkC) (k := 3) (fun _ => rfl) (l := l) (p := p) (m := l.length - p) (stay := decide (c = p)) hcells (fun h => by have := of_decide_eq_true h; omega) (by omega)
      rw [List.take_of_length_le (by rw [List.length_drop]; omega)] at this
      exact cellsAt_ext hx5 this
    refine ⟨_, 67, upd_at, by rw [List.length_append, List.length_append, List.length_append, hP, hZ2, hD, show (lkC x).length = 3 from rfl]; omega, ?_⟩
    have e2 : setR (((l.take p).flatMap lkC ++ lkC x) ++ Z.drop 3 ++ rest) ((p + 1) * 3) ((l.drop p).flatMap lkC) = ((l.take p).flatMap lkC ++ lkC x) ++ (l.drop p).flatMap lkC ++ rest :=
      setR_at rfl (by rw [List.length_append, hP, show (lkC x).length = 3 from rfl]; omega) (by rw [hZ2, hD])
    rw [e2, upd_twice]
    refine hq _ cap _ ⟨by rw [lkC_len, insL_len hp], hcapn, .inr ⟨b, _, 67, rfl, upd_at, ?_, ?_, hx.none hb⟩⟩ (hx.trans (Ext.new hb)) (fun q hq' => ?_) (fun q ⟨o, s', e⟩ => by cases e; exact .inr hb)
    · rw [List.length_append, List.length_append, List.length_append, hP, hD, hrl, show (lkC x).length = 3 from rfl]; omega
    · rw [insL_cells, List.take_left' (by rw [List.length_append, List.length_append, hP, hD, show (lkC x).length = 3 from rfl]; omega)]
    · by_cases e : q = b
      · subst e; exact .inr hb
      · exact absurd (upd_off e) hq'
  · have hroom : l.length + 1 ≤ c := by have := of_decide_eq_false hroom; omega
    obtain ⟨h1, h2, h3 | ⟨bs, cs, ty, rfl, hbs, hcl, ht, hz⟩⟩ := R
    · omega
    have hbg : g ≠ bs := fun e => hgr (by rw [e]; exact ⟨_, _, rfl⟩)
    have hd1 : decide (c = p) = false := decide_eq_false (by omega)
    have hd2 : decide (c = p + 1) = false := decide_eq_false (by omega)
    rw [hd1, hd2, cut_some, cut_some]
    simp only [Nat.zero_add]
    refine ⟨by omega, by omega, by omega, by omega, hbg, ⟨_, _, hg⟩, ⟨_, _, hbs, by rw [List.size_toArray]; omega⟩, by omega, by omega, by omega, by omega, fun h0 => by omega, fun _ => ⟨(l.drop p).flatMap lkC, ?_, ?_, hDo, ?_⟩⟩
    · rw [show min (l.length + 1 - p) (l.length + 1 - (p + 1)) = l.length - p by omega]; exact hD
    · have := cells_cut (f := lkC) (k := 3) (fun _ => rfl) (l := l) (p := p) (m := l.length - p) (stay := false) hcells (fun h => by cases h) (by omega)
      rw [List.take_of_length_le (by rw [List.length_drop]; omega), cut_some, Nat.zero_add] at this
      exact this
    refine ⟨cs, ty, hbs, by rw [hD]; omega, by omega, by omega, fun h0 => by omega, fun _ => ⟨lkC x, ?_, ?_, hx1, ?_⟩⟩
    · rw [show min 1 (l.length + 1 - p) = 1 by omega]; rfl
    · rcases hgc with h | ⟨g', o', e, hc'⟩
      · cases h
      · cases e
        refine .inr ⟨g, 0, rfl, fun j v hj => ?_⟩
        rw [cl_off hbg]; exact hc' j v hj
    have hcs : cs = (l.take p).flatMap lkC ++ ((l.drop p).flatMap lkC ++ cs.drop (l.length * 3)) := by
      rw [← List.append_assoc, ← hPD, ← ht, List.take_append_drop]
    have hrl : 3 ≤ (cs.drop (l.length * 3)).length := by rw [List.length_drop]; omega
    generalize cs.drop (l.length * 3) = R at hcs hrl
    have hE : (l.drop p).flatMap lkC ++ R = ((l.drop p).flatMap lkC ++ R).take 3 ++ (((l.drop p).flatMap lkC ++ R).drop 3).take ((l.length - p) * 3) ++ (((l.drop p).flatMap lkC ++ R).drop 3).drop ((l.length - p) * 3) := by
      rw [List.append_assoc, List.take_append_drop, List.take_append_drop]
    have hEl : ((l.drop p).flatMap lkC ++ R).length = (l.length - p) * 3 + R.length := by rw [List.length_append, hD]
    have hE1 : (((l.drop p).flatMap lkC ++ R).take 3).length = 3 := by rw [List.length_take, hEl]; omega
    have hE2 : ((((l.drop p).flatMap lkC ++ R).drop 3).take ((l.length - p) * 3)).length = (l.length - p) * 3 := by rw [List.length_take, List.length_drop, hEl]; omega
    generalize ((l.drop p).flatMap lkC ++ R).take 3 = E1 at hE hE1
    generalize (((l.drop p).flatMap lkC ++ R).drop 3).take ((l.length - p) * 3) = E2 at hE hE2
    generalize (((l.drop p).flatMap lkC ++ R).drop 3).drop ((l.length - p) * 3) = E3 at hE
    have e1 : setR cs ((p + 1) * 3) ((l.drop p).flatMap lkC) = (l.take p).flatMap lkC ++ E1 ++ ((l.drop p).flatMap lkC ++ E3) := by
      rw [setR_at (P := (l.take p).flatMap lkC ++ E1) (V := E2) (R := E3) (by rw [hcs, hE]; simp [List.append_assoc]) (by rw [List.length_append, hP, hE1]; omega) (by rw [hE2, hD])]
      simp [List.append_assoc]
    rw [e1]
    refine ⟨_, ty, upd_at, ?_, ?_⟩
    · rw [List.length_append, List.length_append, hP, hE1, show (lkC x).length = 3 from rfl]; omega
    have e2 : setR ((l.take p).flatMap lkC ++ E1 ++ ((l.drop p).flatMap lkC ++ E3)) (p * 3) (lkC x) = (l.take p).flatMap lkC ++ lkC x ++ ((l.drop p).flatMap lkC ++ E3) :=
      setR_at rfl (by rw [hP]) (by rw [hE1]; rfl)
    rw [e2, upd_twice]
    have hclen : cs.length = p * 3 + 3 + (l.length - p) * 3 + E3.length := by
      rw [hcs, hE]; simp only [List.length_append, hP, hE1, hE2]; omega
    refine hq _ c _ ⟨by rw [lkC_len, insL_len hp], hroom, .inr ⟨bs, _, ty, rfl, upd_at, ?_, ?_, hz⟩⟩ (hx.upd hz) (fun q hq' => ?_) (fun q hq' => .inl hq')
    · simp only [List.length_append, hP, hD, show (lkC x).length = 3 from rfl]; omega
    · rw [insL_cells, ← List.append_assoc, List.take_left' (by simp only [List.length_append, hP, hD, show (lkC x).length = 3 from rfl]; omega)]
    · by_cases e : q = bs
      · subst e; exact .inl ⟨_, _, rfl⟩
      · exact absurd (upd_off e) hq'
end
end Go.Proofs.Ytkbancdmhcnhjaa.Hw
