/- We Wf Wg Wh HwFi Wi Wj (joined by merge.py) -/
import Derived.Test.YtibhpoikhkokiaaGreatTel10
import Derived.Test.YtibhpoikhkokiaaGreatTel3
/- The document's histories: what is looked up, versions, arcs put in order (c54, c90, c88, c133, c106, c89). -/
set_option linter.unusedVariables false
set_option linter.unusedSimpArgs false
set_option linter.unusedSectionVars false
set_option maxRecDepth 20000
namespace Go.Proofs.YtibhpoikhkokiaaGreat.Hw
open Go Go.Proofs
/-- Numbers, one for each transaction. -/
def CArr (H : Hp) (g : Nat) (f : Nat → Int) : Prop := PArr H g 3 1 201 (fun t => [.int .i64 (f t)])
theorem CArr.get {H : Hp} {g : Nat} {f : Nat → Int} {x : Int} (h : CArr H g f) (h0 : 0 ≤ x) (h1 : x < 201) : cl H g (0 + x.toNat * 1) = some (.int .i64 (f x.toNat)) := by
  have := PArr.get h (t := x.toNat) (j := 0) (v := .int .i64 (f x.toNat)) (by omega) rfl
  rw [Nat.zero_add]; exact this
theorem CArr.set {H : Hp} {g : Nat} {f : Nat → Int} {x v : Int} {K : Hp → Prop} (h : CArr H g f) (h0 : 0 ≤ x) (h1 : x < 201) (hk : ∀ H', CArr H' g (fun j => if j = x.toNat then v else f j) → (∀ q, q ≠ g → H' q = H q) → K H') : storeF H g (0 + x.toNat * 1) [.int .i64 v] K := by
  have := PArr.set (v := .int .i64 v) (F' := fun j => [.int .i64 (if j = x.toNat then v else f j)]) h (t := x.toNat) (j := 0) (by omega) (by omega) (by simp) (fun u hu => by simp [hu]) hk
  rw [Nat.zero_add]; exact this
def comV (l : List Ev) (t : Int) : Int := match commitI l t with
  | some i => i
  | none => -1
theorem comV_ge {l : List Ev} {t : Int} : decide (comV l t ≥ 0) = comB l t := by
  unfold comV comB
  cases commitI l t with
  | none => rfl
  | some i => exact decide_eq_true (show (i : Int) ≥ 0 by omega)
theorem comV_lt {l : List Ev} {t : Int} : decide (comV l t < 0) = !comB l t := by
  rw [← comV_ge, ← decide_not]
  exact decide_eq_decide.2 (by omega)
structure HisAt (H : Hp) (g ga : Nat) (A : Option Addr) (n c : Nat) (l : List Ev) : Prop where
  cell : H g = some (.cells #[.slice A n c, .slice (some ⟨ga, 0, none⟩) 201 201] 118 (0, 0))
  evs : SlAt evC H A n l
  cap : n ≤ c
  com : CArr H ga (fun t => comV l t)
def wrFrom (l : List Ev) (t i : Int) (k : Nat) : Bool := (l.drop k).any (isW t i)
section
variable {H H' H0 : Hp} {Q : Value → Hp → Prop} {g ga : Nat} {A : Option Addr} {n c : Nat} {l : List Ev}
theorem HisAt.ext (B : HisAt H g ga A n c l) (hx : Ext H H') : HisAt H' g ga A n c l := ⟨hx _ _ B.cell, B.evs.ext hx, B.cap, B.com.keep (ext_at hx B.com.live)⟩
theorem HisAt.cl0 (B : HisAt H g ga A n c l) : cl H g (0 + 0) = some (.slice A n c) := cl_cells (cs := [.slice A n c, .slice (some ⟨ga, 0, none⟩) 201 201]) B.cell 0
theorem HisAt.cl1 (B : HisAt H g ga A n c l) : cl H g (0 + 1) = some (.slice (some ⟨ga, 0, none⟩) 201 201) := cl_cells (cs := [.slice A n c, .slice (some ⟨ga, 0, none⟩) 201 201]) B.cell 1
theorem zero1 : (List.replicate ((201 : Int).toNat) [Value.int .i64 0]).flatten = (List.range 201).flatMap fun _ => [Value.int .i64 0] := by rfl
theorem flat_congr {α : Type} {f f' : α → List Value} : ∀ {l : List α}, (∀ x ∈ l, f x = f' x) → l.flatMap f = l.flatMap f'
  | [], _ => rfl
  | a :: r, h => by
    rw [List.flatMap_cons, List.flatMap_cons, h a List.mem_cons_self, flat_congr fun x hx => h x (List.mem_cons_of_mem _ hx)]
theorem comV_snoc {p : List Ev} {x : Ev} {t : Int} : comV (p ++ [x]) t = if isC t x then (p.length : Int) else comV p t := by
  unfold comV commitI
  rw [lastI_snoc]
  cases isC t x <;> rfl
theorem c54 (hA : SlAt evC H A n l) (hc : n ≤ c) (hok : OkTo l l.length) (hq : ∀ g ga H', Ext H H' → HisAt H' g ga A n c l → Q (.pointer (some ⟨g, 0, none⟩)) H') : HCalls Tryz.prog 54 [.slice A n c] H Q := by
  refine f54.ok _ _ _ ?_
  unfold f54
  obtain rfl := hA.len
  have hlt := hA.lt
  refine ⟨rfl, by decide, by decide, fun g1 hg1 => ?_⟩
  rw [zero1]
  have e2 : CArr (upd g1 (Obj.cells ((List.range 201).flatMap fun _ => [Value.int .i64 0]).toArray 3 (0, 0)) H) g1 (fun _ => 0) := ⟨fun _ => rfl, upd_at⟩
  have x2 : Ext H (upd g1 (Obj.cells ((List.range 201).flatMap fun _ => [Value.int .i64 0]).toArray 3 (0, 0)) H) := Ext.new hg1
  generalize (upd g1 (Obj.cells ((List.range 201).flatMap fun _ => [Value.int .i64 0]).toArray 3 (0, 0)) H) = H2 at e2 x2 ⊢
  intro g3 hg3
  have e4 : (upd g3 (Obj.cells [Value.slice A l.length c, .slice (some ⟨g1, 0, none⟩) ((201 : Int).toNat) ((201 : Int).toNat)].toArray 118 (0, 0)) H2) g3 = some (.cells #[.slice A l.length c, .slice (some ⟨g1, 0, none⟩) 201 201] 118 (0, 0)) := upd_at
  have x4 : Ext H2 (upd g3 (Obj.cells [Value.slice A l.length c, .slice (some ⟨g1, 0, none⟩) ((201 : Int).toNat) ((201 : Int).toNat)].toArray 118 (0, 0)) H2) := Ext.new hg3
  generalize (upd g3 (Obj.cells [Value.slice A l.length c, .slice (some ⟨g1, 0, none⟩) ((201 : Int).toNat) ((201 : Int).toNat)].toArray 118 (0, 0)) H2) = H4 at e4 x4 ⊢
  have hne : g3 ≠ g1 := fun e => e2.live (e ▸ hg3)
  have hH3 : H g3 = none := x2.none hg3
  have r1 : ∀ {X : Hp}, X g3 = some (.cells #[.slice A l.length c, .slice (some ⟨g1, 0, none⟩) 201 201] 118 (0, 0)) → cl X g3 (0 + 1) = some (.slice (some ⟨g1, 0, none⟩) 201 201) := fun {X} h => cl_cells (cs := [.slice A l.length c, .slice (some ⟨g1, 0, none⟩) 201 201]) h 1
  refine ⟨_, _, _, r1 e4, ?_⟩
  refine scan (n := 201) (by omega) (fun i H' => Ext H H' ∧ H' g3 = some (.cells #[.slice A l.length c, .slice (some ⟨g1, 0, none⟩) 201 201] 118 (0, 0)) ∧ CArr H' g1 (fun t => if t < i then -1 else 0)) ⟨x2.trans x4, e4, e2.keep (ext_at x4 e2.live)⟩ (fun i H7 next hi hI hnext => ?_) (fun H7 next hI => ?_)
  · obtain ⟨hx7, e7, a7⟩ := hI
    dsimp only
    refine cndT (decide_eq_true (by omega)) ⟨_, _, _, r1 e7, by omega, by omega, onPtrI ?_⟩
    refine CArr.set a7 (by omega) (by omega) fun H11 a11 f11 => ⟨rfl, hnext H11 ⟨fun q o hq' => ?_, (f11 g3 hne).trans e7, ?_⟩⟩
    · rw [f11 q fun e => by rw [e, hg1] at hq'; cases hq']
      exact hx7 q o hq'
    · have : (fun t => [Value.int .i64 (if t < i + 1 then (-1 : Int) else 0)]) = fun j => [Value.int .i64 (if j = ((i : Int)).toNat then (-1 : Int) else if j < i then -1 else 0)] := by
        funext j
        congr 2
        by_cases h1 : j = i
        · rw [if_pos (by omega), if_pos (by omega)]
        · rw [if_neg (by omega : ¬ j = ((i : Int)).toNat)]
          by_cases h2 : j < i
          · rw [if_pos (by omega), if_pos h2]
          · rw [if_neg (by omega), if_neg h2]
      unfold CArr at a11 ⊢
      rw [this]; exact a11
  · obtain ⟨hx7, e7, a7⟩ := hI
    dsimp only
    refine cndF (by decide) ?_
    have a7' : CArr H7 g1 (fun t => comV (l.take 0) t) := by
      refine ⟨fun _ => rfl, ?_⟩
      have e : (List.range 201).flatMap (fun t => [Value.int .i64 (if t < 201 then (-1 : Int) else 0)]) = (List.range 201).flatMap (fun t : Nat => [Value.int .i64 (comV (l.take 0) t)]) := flat_congr fun t ht => by
        have := List.mem_range.1 ht
        rw [if_pos this]; rfl
      rw [a7.2, e]
    refine scan hlt (fun i H' => Ext H H' ∧ H' g3 = some (.cells #[.slice A l.length c, .slice (some ⟨g1, 0, none⟩) 201 201] 118 (0, 0)) ∧ CArr H' g1 (fun t => comV (l.take i) t)) ⟨hx7, e7, a7'⟩ (fun i H13 next2 hi hI hnext2 => ?_) (fun H13 next2 hI => ?_)
    · obtain ⟨hx13, e13, a13⟩ := hI
      obtain ⟨x, hx⟩ := get_of hi
      have hin : 1 ≤ x.txn ∧ x.txn ≤ 200 := by
        have := (ev_parts (hok i x hi hx)).1
        unfold inB at this; simp at this; exact this
      have hpl : (l.take i).length = i := by rw [List.length_take]; omega
      dsimp only
      refine cndT (decide_eq_true (by omega)) (jn_intro (fun J => ∀ H', Ext H H' → H' g3 = some (.cells #[.slice A l.length c, .slice (some ⟨g1, 0, none⟩) 201 201] 118 (0, 0)) → CArr H' g1 (fun t => comV (l.take (i + 1)) t) → J H') (fun H' a b d => ⟨rfl, hnext2 H' ⟨a, b, d⟩⟩) fun J hJ => ⟨by omega, by omega, rd_ev (hA.ext hx13) hx fun q o _ k1 k2 k3 k4 k5 => ⟨x.op, by simpa using k1, x.txn, by simpa using k2, x.item, by simpa using k3, x.frm, by simpa using k4, x.stmt, by simpa using k5, cndI (fun h4 => ?_) fun h4 => ?_⟩⟩)
      · have o4 : x.op = 4 := by simpa using h4
        refine ⟨_, _, _, r1 e13, by omega, by show x.txn < ((201 : Nat) : Int); omega, onPtrI ?_⟩
        refine CArr.set a13 (by omega) (by omega) fun H23 a23 f23 => hJ H23 (fun q o hq' => ?_) ((f23 g3 hne).trans e13) ?_
        · rw [f23 q fun e => by rw [e, hg1] at hq'; cases hq']
          exact hx13 q o hq'
        · have : (fun t : Nat => [Value.int .i64 (comV (l.take (i + 1)) t)]) = fun j => [Value.int .i64 (if j = x.txn.toNat then (i : Int) else comV (l.take i) j)] := by
            funext j
            congr 2
            rw [take_snoc hx, comV_snoc, hpl]
            by_cases h1 : j = x.txn.toNat
            · rw [if_pos h1, if_pos (isC_iff.2 ⟨o4, by omega⟩)]
            · rw [if_neg h1, if_neg (fun h => h1 (by have := (isC_iff.1 h).2; omega))]
          unfold CArr at a23 ⊢
          rw [this]; exact a23
      · refine hJ H13 hx13 e13 ?_
        have : (fun t : Nat => [Value.int .i64 (comV (l.take (i + 1)) t)]) = fun j : Nat => [Value.int .i64 (comV (l.take i) j)] := by
          funext j
          congr 2
          rw [take_snoc hx, comV_snoc, if_neg]
          intro h
          have := (isC_iff.1 h).1
          rw [this] at h4; cases h4
        unfold CArr
        rw [this]; exact a13
    · obtain ⟨hx13, e13, a13⟩ := hI
      rw [List.take_length] at a13
      dsimp only
      exact cndF (decide_eq_false (by omega)) (hq g3 g1 H13 hx13 ⟨e13, hA.ext hx13, hc, a13⟩)
theorem c90 {t i : Int} {k : Nat} (B : HisAt H g ga A n c l) (hk : k ≤ l.length) (hq : Q (.bool (wrFrom l t i k)) H) : HCalls Tryz.prog 90 [.pointer (some ⟨g, 0, none⟩), .int .i64 t, .int .i64 i, .int .i64 (k : Int)] H Q := by
  refine f90.ok _ _ _ _ _ ?_
  unfold f90
  have hA := B.evs
  obtain rfl := hA.len
  have hlt := hA.lt
  refine ⟨_, _, _, B.cl0, by omega, by omega, ?_⟩
  rw [Int.toNat_natCast]
  have hcut := SlAt.cut (k := 5) (p := k) (m := l.length - k) evC_len hA B.cap (by omega)
  rw [List.take_of_length_le (by rw [List.length_drop]; omega)] at hcut
  have hdl : (l.drop k).length = l.length - k := List.length_drop
  refine scan (n := l.length - k) (by omega) (fun j H' => H' = H ∧ ((l.drop k).take j).any (isW t i) = false) ⟨rfl, by simp⟩ (fun j H2 next hj hI hnext => ?_) (fun H2 next hI => ?_)
  · obtain ⟨rfl, hno⟩ := hI
    obtain ⟨x, hx⟩ := get_of (l := l.drop k) (i := j) (by omega)
    dsimp only
    refine cndT (decide_eq_true (by omega)) ⟨by omega, by omega, rd_ev hcut hx fun q o _ k1 k2 k3 k4 k5 => ⟨x.op, by simpa using k1, x.txn, by simpa using k2, x.item, by simpa using k3, x.frm, by simpa using k4, x.stmt, by simpa using k5, ?_⟩⟩
    refine jn_intro (fun J => J (isW t i x)) (cndI (fun h => ?_) fun h => ⟨rfl, hnext H2 ⟨rfl, ?_⟩⟩) fun J hJ => ?_
    · have : wrFrom l t i k = true := any_hit hx h
      rw [this] at hq; exact hq
    · rw [any_take_succ hx, hno, h]; rfl
    · unfold isW at hJ
      refine cndI (fun h1 => cndI (fun h2 => ?_) fun h2 => ?_) fun h1 => ?_
      · rw [h1, h2] at hJ; exact hJ
      · rw [h2, Bool.false_and, Bool.and_false] at hJ; exact hJ
      · rw [h1, Bool.false_and] at hJ; exact hJ
  · obtain ⟨rfl, hno⟩ := hI
    rw [← hdl, List.take_length] at hno
    dsimp only
    have : wrFrom l t i k = false := hno
    rw [this] at hq
    exact cndF (decide_eq_false (by omega)) hq
theorem wrote_commit (hok : OkTo l l.length) {j : Nat} {x : Ev} (hx : l[j]? = some x) (ho : x.op = 4) (i : Int) : wrFrom l x.txn i 0 = wroteM (l.take j) x.txn i := by
  unfold wrFrom
  rw [List.drop_zero, Bool.eq_iff_iff]
  unfold wroteM
  constructor
  · intro h
    obtain ⟨y, hy, hp⟩ := List.any_eq_true.1 h
    obtain ⟨m, hm⟩ := List.getElem?_of_mem hy
    have hw := isW_iff.1 hp
    have hle := hok.commit_gt hm (by rw [hw.2.1]; exact hok.commit_at hx (isC_iff.2 ⟨ho, rfl⟩))
    have hne : m ≠ j := fun e => by rw [e, hx] at hm; cases hm; omega
    exact any_take.2 ⟨m, y, by omega, hm, hp⟩
  · intro h
    obtain ⟨m, y, _, hm, hp⟩ := any_take.1 h
    exact List.any_eq_true.2 ⟨y, List.mem_of_getElem? hm, hp⟩
def vv (l : List Ev) (item : Int) : List Int := 0 :: versM l item
theorem c88 {item : Int} (B : HisAt H g ga A n c l) (hok : OkTo l l.length) (hs : l.length ≤ 2000) (hq : ∀ A' c' H', Ext H H' → SlAt inC H' A' (vv l item).length (vv l item) → Q (.slice A' (vv l item).length c') H') : HCalls Tryz.prog 88 [.pointer (some ⟨g, 0, none⟩), .int .i64 item] H Q := by
  refine f88.ok _ _ _ ?_
  unfold f88
  have hA := B.evs
  obtain rfl := hA.len
  have hlt := hA.lt
  intro g1 hg1
  have x2 : Ext H (upd g1 (Obj.cells [Value.int .i64 0].toArray 3 (0, 0)) H) := Ext.new hg1
  have R2 : Row H (upd g1 (Obj.cells [Value.int .i64 0].toArray 3 (0, 0)) H) (some ⟨g1, 0, none⟩) (vv (l.take 0) item).length 1 1 ((vv (l.take 0) item).flatMap inC) := ⟨rfl, by simp [vv, vers_nil], .inr ⟨g1, [Value.int .i64 0], 3, rfl, upd_at, by simp, rfl, hg1⟩⟩
  generalize (upd g1 (Obj.cells [Value.int .i64 0].toArray 3 (0, 0)) H) = H2 at x2 R2 ⊢
  refine ⟨_, _, _, (B.ext x2).cl0, loop_to l.length (fun i st H' => ∃ A1 c1, st = (((A1, (vv (l.take i) item).length, c1), ((i : Int), ())), ()) ∧ Ext H H' ∧ Row H H' A1 (vv (l.take i) item).length c1 1 ((vv (l.take i) item).flatMap inC)) ⟨_, 1, rfl, x2, R2⟩ ?_⟩
  rintro i st H5 next hi ⟨A1, c1, rfl, hx5, R⟩ hnext
  have B5 := B.ext hx5
  dsimp only
  by_cases h : i < l.length
  · obtain ⟨x, hx⟩ := get_of h
    have ei : IntKind.i64.wrap ((i : Int) + 1) = ((i + 1 : Nat) : Int) := by rw [wrap_id (by omega) (by omega)]; rfl
    have hvl : (vv (l.take i) item).length ≤ 1 + i := by
      have := vers_len (l := l.take i) (k := item)
      rw [List.length_take] at this
      unfold vv; rw [List.length_cons]; omega
    have esn : vv (l.take (i + 1)) item = vv (l.take i) item ++ if x.op == 4 && wroteM (l.take i) x.txn item then [x.txn] else [] := by
      unfold vv; rw [take_snoc hx, vers_snoc]; rfl
    refine cndT (decide_eq_true (by omega)) (jn_intro (fun J => ∀ A2 c2 H', Ext H H' → Row H H' A2 (vv (l.take (i + 1)) item).length c2 1 ((vv (l.take (i + 1)) item).flatMap inC) → J A2 (vv (l.take (i + 1)) item).length c2 H') (fun A2 c2 H' a b => ⟨rfl, hnext _ _ h ⟨A2, c2, by rw [ei], a, b⟩⟩) fun J hJ => ⟨by omega, by omega, rd_ev (hA.ext hx5) hx fun q o _ k1 k2 k3 k4 k5 => ⟨x.op, by simpa using k1, x.txn, by simpa using k2, x.item, by simpa using k3, x.frm, by simpa using k4, x.stmt, by simpa using k5, ?_⟩⟩)
    rw [esn] at hJ
    refine jn_intro (fun J2 => J2 (x.op == 4 && wroteM (l.take i) x.txn item) H5) (cndI (fun hb => ?_) fun hb => ?_) fun J2 h2 => cndI (fun h4 => ?_) fun h4 => ?_
    · rw [hb, if_pos rfl] at hJ
      intro g19 hg19
      exact Row.push1 (w := x.txn) (f := inC) (k := 1) (ty := 3) (fun _ => rfl) (fun x v hv => by obtain rfl := List.mem_singleton.1 hv; rfl) (by omega) R hx5 (by unfold big; omega) hg19 fun A2 c2 H22 R2 x22 _ _ => hJ A2 c2 H22 x22 R2
    · rw [hb, if_neg (by decide), List.append_nil] at hJ
      exact hJ A1 c1 H5 hx5 R
    · have o4 : x.op = 4 := by simpa using h4
      refine c90 (k := 0) B5 (Nat.zero_le _) ⟨_, rfl, ?_⟩
      rw [wrote_commit hok hx o4]
      rw [h4, Bool.true_and] at h2; exact h2
    · rw [h4, Bool.false_and] at h2; exact h2
  · obtain rfl : i = l.length := by omega
    rw [List.take_length] at R ⊢
    have := vers_len (l := l) (k := item)
    exact cndF (decide_eq_false (by omega)) (hq A1 c1 H5 hx5 ⟨rfl, R.cells, by unfold vv huge; rw [List.length_cons]; omega⟩)
/-! ### arcs in order -/
def lexB : List Int → List Int → Bool
  | [], b => decide (0 < b.length)
  | _ :: _, [] => false
  | a :: r, b :: s => if a != b then decide (a < b) else lexB r s
theorem lexB_cons {a b : Int} {r s : List Int} : lexB (a :: r) (b :: s) = if a != b then decide (a < b) else lexB r s := rfl
theorem c133 {A B : Option Addr} {n k ca cb : Nat} {a b : List Int} (hA : SlAt inC H A n a) (hB : SlAt inC H B k b) (hq : Q (.bool (lexB a b)) H) : HCalls Tryz.prog 133 [.slice A n ca, .slice B k cb] H Q := by
  refine f133.ok _ _ _ _ _ _ ?_
  unfold f133
  obtain rfl := hA.len
  obtain rfl := hB.len
  have hl1 := hA.lt
  have hl2 := hB.lt
  refine loop_to a.length (fun i st H' => st = (((i : Int), ()), ()) ∧ H' = H ∧ lexB (a.drop i) (b.drop i) = lexB a b) ⟨rfl, rfl, by simp⟩ ?_
  rintro i st H2 next hi ⟨rfl, rfl, hlex⟩ hnext
  dsimp only
  refine jn_intro (fun J => J (decide (i < a.length) && decide (i < b.length))) ?_ fun J hJ => cndI (fun h => ?_) fun h => ?_
  · refine cndI (fun h => ?_) fun h => ?_
    · rw [Bool.and_eq_true, decide_eq_true_eq, decide_eq_true_eq] at h
      obtain ⟨x, hx⟩ := get_of h.1
      obtain ⟨y, hy⟩ := get_of h.2
      have ea : a.drop i = x :: a.drop (i + 1) := by
        obtain ⟨g1, g2⟩ := List.getElem?_eq_some_iff.1 hx
        rw [List.drop_eq_getElem_cons g1, g2]
      have eb : b.drop i = y :: b.drop (i + 1) := by
        obtain ⟨g1, g2⟩ := List.getElem?_eq_some_iff.1 hy
        rw [List.drop_eq_getElem_cons g1, g2]
      have ei : IntKind.i64.wrap ((i : Int) + 1) = ((i + 1 : Nat) : Int) := by rw [wrap_id (by omega) (by omega)]; rfl
      rw [ea, eb, lexB_cons] at hlex
      refine ⟨by omega, by omega, rd_in hA hx fun q o _ k1 => ⟨x, by simpa using k1, by omega, by omega, rd_in hB hy fun q o _ k2 => ⟨y, by simpa using k2, cndI (fun hne => ⟨by omega, by omega, rd_in hA hx fun q o _ k1 => ⟨x, by simpa using k1, by omega, by omega, rd_in hB hy fun q o _ k2 => ⟨y, by simpa using k2, ?_⟩⟩⟩) fun heq => ⟨rfl, hnext _ _ h.1 ⟨by rw [ei], rfl, ?_⟩⟩⟩⟩⟩
      · rw [if_pos hne] at hlex
        rw [hlex]; exact hq
      · rw [if_neg (by rw [heq]; decide)] at hlex
        exact hlex
    · rw [Bool.and_eq_false_iff, decide_eq_false_iff_not, decide_eq_false_iff_not] at h
      have : lexB (a.drop i) (b.drop i) = decide (((a.length : Nat) : Int) < ((b.length : Nat) : Int)) := by
        by_cases h1 : i < a.length
        · have h2 : ¬ i < b.length := by omega
          rw [List.drop_eq_getElem_cons h1, List.drop_eq_nil_of_le (by omega : b.length ≤ i), decide_eq_false (by omega)]; rfl
        · rw [List.drop_eq_nil_of_le (by omega : a.length ≤ i)]
          show decide (0 < (b.drop i).length) = _
          rw [List.length_drop]
          exact decide_eq_decide.2 (by omega)
      rw [this] at hlex
      rw [hlex]; exact hq
  · have h' : i < a.length := by have := of_decide_eq_true h; omega
    rw [decide_eq_true h', Bool.true_and] at hJ
    rw [show decide (((i : Int)) < ((b.length : Nat) : Int)) = decide (i < b.length) from decide_eq_decide.2 (by omega)]
    exact hJ
  · have h' : ¬ i < a.length := by have := of_decide_eq_false h; omega
    rw [decide_eq_false h', Bool.false_and] at hJ
    exact hJ
open Classical in
noncomputable def ltB (x y : Arc) : Bool := decide (ltA x y)
theorem lex_lt {x y : Arc} : lexB [x.a, x.b, x.kind, x.item] [y.a, y.b, y.kind, y.item] = ltB x y := by
  classical
  rw [Bool.eq_iff_iff]
  unfold ltB
  rw [decide_eq_true_eq]
  unfold ltA
  rw [lexB_cons]
  by_cases h1 : x.a = y.a
  · rw [if_neg (by simp [h1]), lexB_cons]
    by_cases h2 : x.b = y.b
    · rw [if_neg (by simp [h2]), lexB_cons]
      by_cases h3 : x.kind = y.kind
      · rw [if_neg (by simp [h3]), lexB_cons]
        by_cases h4 : x.item = y.item
        · rw [if_neg (by simp [h4])]
          constructor
          · intro h; cases h
          · intro h; omega
        · rw [if_pos (by simpa using h4), decide_eq_true_eq]; omega
      · rw [if_pos (by simpa using h3), decide_eq_true_eq]; omega
    · rw [if_pos (by simpa using h2), decide_eq_true_eq]; omega
  · rw [if_pos (by simpa using h1), decide_eq_true_eq]; omega
theorem c106 {x y : Arc} (hq : ∀ H', Ext H H' → Q (.bool (ltB x y)) H') : HCalls Tryz.prog 106 [.agg #[.int .i64 x.a, .int .i64 x.b, .int .i64 x.kind, .int .i64 x.item], .agg #[.int .i64 y.a, .int .i64 y.b, .int .i64 y.kind, .int .i64 y.item]] H Q := by
  refine f106.ok _ _ _ _ _ _ _ _ ?_
  unfold f106
  intro g1 hg1
  have s1 := fresh_sl (H := H) (g := g1) (ty := 3) (f := inC) (l := [x.a, x.b, x.kind, x.item]) (vs := [Value.int .i64 x.a, .int .i64 x.b, .int .i64 x.kind, .int .i64 x.item]) rfl (by unfold huge; simp)
  have x2 : Ext H (upd g1 (Obj.cells [Value.int .i64 x.a, .int .i64 x.b, .int .i64 x.kind, .int .i64 x.item].toArray 3 (0, 0)) H) := Ext.new hg1
  generalize (upd g1 (Obj.cells [Value.int .i64 x.a, .int .i64 x.b, .int .i64 x.kind, .int .i64 x.item].toArray 3 (0, 0)) H) = H2 at s1 x2 ⊢
  intro g3 hg3
  have s3 := fresh_sl (H := H2) (g := g3) (ty := 3) (f := inC) (l := [y.a, y.b, y.kind, y.item]) (vs := [Value.int .i64 y.a, .int .i64 y.b, .int .i64 y.kind, .int .i64 y.item]) rfl (by unfold huge; simp)
  have x4 : Ext H2 (upd g3 (Obj.cells [Value.int .i64 y.a, .int .i64 y.b, .int .i64 y.kind, .int .i64 y.item].toArray 3 (0, 0)) H2) := Ext.new hg3
  generalize (upd g3 (Obj.cells [Value.int .i64 y.a, .int .i64 y.b, .int .i64 y.kind, .int .i64 y.item].toArray 3 (0, 0)) H2) = H4 at s3 x4 ⊢
  refine c133 (s1.ext x4) s3 ⟨_, rfl, ?_⟩
  rw [lex_lt]
  exact hq H4 (x2.trans x4)
end
end Go.Proofs.YtibhpoikhkokiaaGreat.Hw

/- The document's histories: all arcs (c89, c55, c19, c20). -/
set_option linter.unusedVariables false
set_option linter.unusedSimpArgs false
set_option linter.unusedSectionVars false
set_option maxRecDepth 20000
namespace Go.Proofs.YtibhpoikhkokiaaGreat.Hw
open Go Go.Proofs
section
variable {H H' H0 : Hp} {Q : Value → Hp → Prop}
/-- append to a slice that is full: a new block. -/
theorem appendF_sl {α : Type} {f : α → List Value} {k ty eby : Nat} (hf : ∀ x, (f x).length = k) (ho : ∀ x, ∀ v ∈ f x, v.oneCell' = true) (he : eby ≤ 100) {A B : Option Addr} {n c m : Nat} {l r : List α} {K : Option Addr → Nat → Nat → Hp → Prop}
    (hA : SlAt f H A n l) (hB : SlAt f H B m r) (hcap : c < n + m ∨ m = 0) (hnc : n ≤ c) (hsz : n + m < big) (hk : ∀ A' c' H', Ext H H' → SlAt f H' A' (n + m) (l ++ r) → n + m ≤ c' → K A' (n + m) c' H') : appendF H ty k eby A n c B m K := by
  have hl := hA.len
  have hr := hB.len
  have hmul : (n + m) * eby ≤ 140737488355328 := by
    have : (n + m) * eby ≤ (n + m) * 100 := Nat.mul_le_mul_left _ he
    unfold big at hsz; omega
  have hbh : n + m < huge := by unfold big at hsz; unfold huge; omega
  refine ⟨hmul, by unfold big at hsz; omega, r.flatMap f, by rw [flat_length (fun x _ => hf x), hr], hB.cells, fun v hv => by obtain ⟨x, _, hx⟩ := List.mem_flatMap.1 hv; exact ho x v hx, fun hle => ⟨fun h0 => ?_, fun hpos => by omega⟩, fun hlt => ⟨l.flatMap f, by rw [flat_length (fun x _ => hf x), hl], hA.cells, fun b cap rest hb h1 h2 h3 => ?_⟩⟩
  · subst h0
    have : r = [] := List.eq_nil_of_length_eq_zero hr.symm
    subst this
    have := hk A c H (Ext.refl _) (by rw [List.append_nil]; exact hA) (by omega)
    exact this
  · refine hk _ _ _ (Ext.new hb) ⟨by rw [List.length_append]; omega, .inr ⟨b, 0, rfl, fun j v hj => ?_⟩, by rw [List.length_append]; omega⟩ h1
    rw [cl_cells upd_at, Nat.zero_add]
    rw [List.flatMap_append] at hj
    rw [List.getElem?_append_left (List.getElem?_eq_some_iff.1 hj).1]; exact hj
def okA (x : Arc) : Prop := x.a ≠ x.b ∧ x.a ≠ 0 ∧ x.b ≠ 0
def rangeA (x : Arc) : Prop := (0 ≤ x.a ∧ x.a ≤ 200) ∧ (0 ≤ x.b ∧ x.b ≤ 200) ∧ (1 ≤ x.kind ∧ x.kind ≤ 3) ∧ (1 ≤ x.item ∧ x.item ≤ 200)
def numA (x : Arc) : Int := ((x.a * 201 + x.b) * 4 + x.kind) * 201 + x.item
theorem numA_inj {x y : Arc} (hx : rangeA x) (hy : rangeA y) (h : numA x = numA y) : x = y := by
  unfold numA at h
  obtain ⟨⟨x1, x2⟩, ⟨x3, x4⟩, ⟨x5, x6⟩, ⟨x7, x8⟩⟩ := hx
  obtain ⟨⟨y1, y2⟩, ⟨y3, y4⟩, ⟨y5, y6⟩, ⟨y7, y8⟩⟩ := hy
  cases x; cases y
  simp only at *
  congr 1 <;> omega
theorem arcs_few {out : List Arc} (h : out.Pairwise ltA) (hr : ∀ x ∈ out, rangeA x) : out.length ≤ 33000000 := by
  have h1 : (out.map numA).Nodup := by
    refine List.pairwise_map.2 (h.imp_of_mem fun {x y} hx hy hlt he => ?_)
    rw [numA_inj (hr x hx) (hr y hy) he] at hlt
    exact ltA_irrefl hlt
  have h2 := nodup_len (m := (List.range 33000000).map fun (j : Nat) => (j : Int)) h1 fun z hz => by
    obtain ⟨x, hx, rfl⟩ := List.mem_map.1 hz
    obtain ⟨⟨x1, x2⟩, ⟨x3, x4⟩, ⟨x5, x6⟩, ⟨x7, x8⟩⟩ := hr x hx
    have : 0 ≤ numA x ∧ numA x < 33000000 := by unfold numA; omega
    exact List.mem_map.2 ⟨(numA x).toNat, List.mem_range.2 (by omega), by omega⟩
  rw [List.length_map, List.length_map, List.length_range] at h2
  exact h2
/-- The arcs that have been put in. -/
structure ArcOut (H : Hp) (A : Option Addr) (n c : Nat) (out : List Arc) (P : Arc → Prop) : Prop where
  sl : SlAt arC H A n out
  cap : n ≤ c
  srt : out.Pairwise ltA
  rng : ∀ x ∈ out, rangeA x
  mem : ∀ x, x ∈ out ↔ okA x ∧ P x
theorem ArcOut.ext {A : Option Addr} {n c : Nat} {out : List Arc} {P : Arc → Prop} (O : ArcOut H A n c out P) (hx : Ext H H') : ArcOut H' A n c out P := ⟨O.sl.ext hx, O.cap, O.srt, O.rng, O.mem⟩
theorem ArcOut.congr {A : Option Addr} {n c : Nat} {out : List Arc} {P P' : Arc → Prop} (O : ArcOut H A n c out P) (h : ∀ x, P x ↔ P' x) : ArcOut H A n c out P' := ⟨O.sl, O.cap, O.srt, O.rng, fun x => (O.mem x).trans (and_congr_right fun _ => h x)⟩
theorem ltB_iff {x y : Arc} : ltB x y = true ↔ ltA x y := by classical unfold ltB; exact ⟨fun h => of_decide_eq_true h, fun h => decide_eq_true h⟩
theorem c89 {A : Option Addr} {n c : Nat} {out : List Arc} {P : Arc → Prop} {a : Arc} (O : ArcOut H A n c out P) (hr : rangeA a) (hq : ∀ A' n' c' out' H', Ext H H' → ArcOut H' A' n' c' out' (fun x => P x ∨ x = a) → Q (.slice A' n' c') H') :
    HCalls Tryz.prog 89 [.slice A n c, .agg #[.int .i64 a.a, .int .i64 a.b, .int .i64 a.kind, .int .i64 a.item]] H Q := by
  refine f89.ok _ _ _ _ _ _ _ ?_
  unfold f89
  have hA := O.sl
  obtain rfl := hA.len
  have hlt := hA.lt
  have hfew := arcs_few O.srt O.rng
  have same : (a ∈ out ∨ ¬ okA a) → ∀ X, Ext H X → Q (.slice A out.length c) X := fun h X hx => hq A _ c out X hx ⟨O.sl.ext hx, O.cap, O.srt, O.rng, fun x => ?_⟩
  rotate_left
  · rw [O.mem]
    constructor
    · rintro ⟨h1, h2⟩; exact ⟨h1, .inl h2⟩
    · rintro ⟨h1, h2 | rfl⟩
      · exact ⟨h1, h2⟩
      · rcases h with h | h
        · exact (O.mem _).1 h
        · exact absurd h1 h
  refine jn_intro (fun J => (¬ okA a → J true) ∧ (okA a → J false)) ⟨fun h => cndT rfl (same (.inr h) H (Ext.refl _)), fun hok => cndF rfl ?_⟩ fun J hJ => cndI (fun h1 => hJ.1 fun h => h.1 (by simpa using h1)) fun h1 => cndI (fun h2 => hJ.1 fun h => h.2.1 (by simpa using h2)) fun h2 => ?_
  rotate_left
  · cases h3 : a.b == 0 with
    | true => exact hJ.1 fun h => h.2.2 (by simpa using h3)
    | false => exact hJ.2 ⟨by simpa using h1, by simpa using h2, by simpa using h3⟩
  refine loop_to out.length (fun i st H' => st = ((((out.length - i : Nat) : Int), ()), ()) ∧ Ext H H' ∧ ∀ (j : Nat) (x : Arc), out.length - i ≤ j → out[j]? = some x → ltB x a = false) ⟨rfl, Ext.refl _, fun j x hj hx => by have := (List.getElem?_eq_some_iff.1 hx).1; omega⟩ ?_
  rintro i st H4 next hi ⟨rfl, hx4, hge⟩ hnext
  generalize hk : out.length - i = k at hge hnext ⊢
  have hkl : k ≤ out.length := by omega
  dsimp only
  have em : IntKind.i64.wrap ((k : Int) - 1) = (k : Int) - 1 := wrap_id (by omega) (by omega)
  refine jn_intro (fun J => ∀ (b : Bool) H', Ext H H' → (b = true → 0 < k ∧ ∀ x, out[k - 1]? = some x → ltB x a = false) → (b = false → 0 < k → ∀ x, out[k - 1]? = some x → ltB x a = true) → J b H') (fun b H15 hx15 ht hf => cndI (fun hb => ⟨rfl, hnext _ _ ?_ ⟨?_, hx15, fun j x hj hx => ?_⟩⟩) fun hb => ?_) fun J hJ => cndI (fun h0 => ?_) fun h0 => hJ false H4 hx4 (fun h => by cases h) fun _ h => by have := of_decide_eq_false h0; omega
  · obtain ⟨h0, _⟩ := ht hb; omega
  · obtain ⟨h0, _⟩ := ht hb
    rw [em]
    congr 3
    omega
  · obtain ⟨h0, h1⟩ := ht hb
    by_cases e : j = k - 1
    · subst e; exact h1 x hx
    · exact hge j x (by omega) hx
  · have hlow := hf hb
    clear ht hf
    have hA15 := hA.ext hx15
    have hpos : ∀ (j : Nat) x, j < k → out[j]? = some x → ltA x a := fun j x hj hx => by
      obtain ⟨z, hz⟩ := get_of (l := out) (i := k - 1) (by omega)
      have hza := ltB_iff.1 (hlow (by omega) z hz)
      by_cases e : j = k - 1
      · subst e; rw [hx] at hz; cases hz; exact hza
      · obtain ⟨g1, g2⟩ := List.getElem?_eq_some_iff.1 hx
        obtain ⟨g3, g4⟩ := List.getElem?_eq_some_iff.1 hz
        have := List.pairwise_iff_getElem.1 O.srt j (k - 1) g1 g3 (by omega)
        rw [g2, g4] at this
        exact ltA_trans this hza
    refine jn_intro (fun J => ∀ b, (b = true → a ∈ out) → (b = false → k < out.length → out[k]? ≠ some a) → J b) (fun b ht hf => cndI (fun hbt => same (.inl (ht hbt)) H15 hx15) fun hbf => ?_) fun J hJ => cndI (fun hkn => ?_) fun hkn => hJ false (fun h => by cases h) fun _ h => by have := of_decide_eq_false hkn; omega
    rotate_left
    · have hkn' : k < out.length := by have := of_decide_eq_true hkn; omega
      obtain ⟨z, hz⟩ := get_of hkn'
      refine ⟨by omega, by omega, rd_ar hA15 hz fun q o _ k1 k2 k3 k4 => ⟨z.a, by simpa using k1, z.b, by simpa using k2, z.kind, by simpa using k3, z.item, by simpa using k4, hJ _ (fun h => ?_) fun h _ h2 => ?_⟩⟩
      · simp only [Bool.and_eq_true, beq_iff_eq, and_true] at h
        have : z = a := by cases z; cases a; simp only at h; obtain ⟨rfl, rfl, rfl, rfl⟩ := h; rfl
        rw [← this]; exact List.mem_of_getElem? hz
      · rw [hz] at h2; cases h2
        simp at h
    · have hnk := hf hbf
      have hafter : ∀ (j : Nat) x, k ≤ j → out[j]? = some x → ltA a x := fun j x hj hx => by
        have hjl := (List.getElem?_eq_some_iff.1 hx).1
        obtain ⟨z, hz⟩ := get_of (l := out) (i := k) (by omega)
        have h1 : ¬ ltA z a := fun h => by have := hge k z (Nat.le_refl _) hz; rw [ltB_iff.2 h] at this; cases this
        have h2 : z ≠ a := fun e => hnk (by omega) (by rw [hz, e])
        have h3 : ltA a z := by
          apply Classical.byContradiction
          intro h
          exact h2 (ltA_total h1 h)
        by_cases e : j = k
        · subst e; rw [hx] at hz; cases hz; exact h3
        · obtain ⟨g1, g2⟩ := List.getElem?_eq_some_iff.1 hx
          obtain ⟨g3, g4⟩ := List.getElem?_eq_some_iff.1 hz
          have := List.pairwise_iff_getElem.1 O.srt k j g3 g1 (by omega)
          rw [g2, g4] at this
          exact ltA_trans h3 this
      have hcap := O.cap
      refine ⟨by omega, by omega, by omega, by omega, by omega, by omega, fun g24 hg24 => ?_⟩
      rw [Int.toNat_natCast]
      have s24 := fresh_sl (H := H15) (g := g24) (ty := 52) (f := arC) (l := [a]) (vs := [Value.int .i64 a.a, .int .i64 a.b, .int .i64 a.kind, .int .i64 a.item]) rfl (by unfold huge; simp)
      have x25 : Ext H15 (upd g24 (Obj.cells [Value.int .i64 a.a, .int .i64 a.b, .int .i64 a.kind, .int .i64 a.item].toArray 52 (0, 0)) H15) := Ext.new hg24
      generalize (upd g24 (Obj.cells [Value.int .i64 a.a, .int .i64 a.b, .int .i64 a.kind, .int .i64 a.item].toArray 52 (0, 0)) H15) = H25 at s24 x25 ⊢
      have hcut := SlAt.cut (k := 4) (p := k) (m := out.length - k) arC_len (hA15.ext x25) hcap (by omega)
      rw [List.take_of_length_le (by rw [List.length_drop]; omega)] at hcut
      refine appendF_sl arC_len arC_one (by omega) s24 hcut (by show 1 < 1 + _ ∨ _; omega) (Nat.le_refl _) (by show 1 + _ < big; unfold big; omega) fun A26 c26 H27 x27 s26 _ => ?_
      have hpre : SlAt arC H27 A k (out.take k) := ⟨by rw [List.length_take]; omega, by
        have := cellsAt_take (k := k * 4) ((hA15.ext x25).ext x27).cells
        rw [show (out.take k).flatMap arC = (out.flatMap arC).take (k * 4) from ?_]
        · exact this
        · have e1 : out.flatMap arC = (out.take k).flatMap arC ++ (out.drop k).flatMap arC := by rw [← List.flatMap_append, List.take_append_drop]
          rw [e1, List.take_left' (by rw [flat_length (fun x _ => arC_len x), List.length_take]; omega)], by rw [List.length_take]; unfold huge; omega⟩
      have hcut2 := SlAt.cut (k := 4) (p := 0) (m := k) (c := k) arC_len hpre (Nat.le_refl _) (by rw [List.length_take]; omega)
      rw [List.drop_zero, List.take_of_length_le (by rw [List.length_take]; omega)] at hcut2
      refine appendF_sl arC_len arC_one (by omega) hcut2 s26 (by show _ < _ + (1 + _) ∨ _; omega) (Nat.le_refl _) (by show _ + (1 + _) < big; unfold big; omega) fun A28 c28 H29 x29 s28 hc28 => ?_
      have hmem : ∀ x, x ∈ out.take k ++ ([a] ++ out.drop k) ↔ x ∈ out ∨ x = a := fun x => by
        rw [List.mem_append, List.mem_append, List.mem_singleton]
        conv => rhs; rw [← List.take_append_drop k out, List.mem_append]
        constructor
        · rintro (h | h | h)
          · exact .inl (.inl h)
          · exact .inr h
          · exact .inl (.inr h)
        · rintro ((h | h) | h)
          · exact .inl h
          · exact .inr (.inr h)
          · exact .inr (.inl h)
      refine hq A28 _ c28 _ H29 (((hx15.trans x25).trans x27).trans x29) ⟨s28, hc28, ?_, fun x hx => ?_, fun x => ?_⟩
      · rw [List.pairwise_append]
        refine ⟨O.srt.sublist (List.take_sublist _ _), ?_, fun x hx y hy => ?_⟩
        · refine List.pairwise_cons.2 ⟨fun y hy => ?_, O.srt.sublist (List.drop_sublist _ _)⟩
          obtain ⟨j, hj⟩ := List.getElem?_of_mem hy
          have hy' : y ∈ out.drop k := hy
          obtain ⟨j, hj⟩ := List.getElem?_of_mem hy'
          rw [List.getElem?_drop] at hj
          exact hafter _ y (by omega) hj
        · obtain ⟨j, hj⟩ := List.getElem?_of_mem hx
          have hjk : j < k := by
            have := (List.getElem?_eq_some_iff.1 hj).1
            rw [List.length_take] at this; omega
          rw [List.getElem?_take_of_lt hjk] at hj
          have hxa := hpos j x hjk hj
          have hy : y ∈ a :: out.drop k := hy
          rcases List.mem_cons.1 hy with rfl | hy
          · exact hxa
          · obtain ⟨m, hm⟩ := List.getElem?_of_mem hy
            rw [List.getElem?_drop] at hm
            exact ltA_trans hxa (hafter _ y (by omega) hm)
      · rcases (hmem x).1 hx with h | rfl
        · exact O.rng x h
        · exact hr
      · rw [hmem, O.mem]
        constructor
        · rintro (⟨h1, h2⟩ | rfl)
          · exact ⟨h1, .inl h2⟩
          · exact ⟨hok, .inr rfl⟩
        · rintro ⟨h1, h2 | h2⟩
          · exact .inl ⟨h1, h2⟩
          · exact .inr h2
  · have h0' : 0 < k := by have := of_decide_eq_true h0; omega
    obtain ⟨z, hz⟩ := get_of (l := out) (i := k - 1) (by omega)
    have ek : ((k : Int) - 1) = ((k - 1 : Nat) : Int) := by omega
    rw [em, ek]
    refine ⟨by omega, by omega, rd_ar (hA.ext hx4) hz fun q o _ k1 k2 k3 k4 => ⟨z.a, by simpa using k1, z.b, by simpa using k2, z.kind, by simpa using k3, z.item, by simpa using k4, c106 fun H12 x12 => ⟨_, rfl, hJ _ H12 (hx4.trans x12) (fun h => ⟨h0', fun x hx => ?_⟩) fun h _ x hx => ?_⟩⟩⟩
    · rw [hz] at hx; cases hx; simpa using h
    · rw [hz] at hx; cases hx; simpa using h
end
end Go.Proofs.YtibhpoikhkokiaaGreat.Hw

/- The document's histories: all arcs, walked (c55, c19, c20). -/
set_option linter.unusedVariables false
set_option linter.unusedSimpArgs false
set_option linter.unusedSectionVars false
set_option maxRecDepth 20000
namespace Go.Proofs.YtibhpoikhkokiaaGreat.Hw
open Go Go.Proofs
def WWp (l : List Ev) (item : Int) (n : Nat) (x : Arc) : Prop := ∃ j : Nat, j < n ∧ ∃ a b, (vv l item)[j]? = some a ∧ (vv l item)[j + 1]? = some b ∧ x = ⟨a, b, 1, item⟩
def WRp (l : List Ev) (item : Int) (i : Nat) (e : Ev) (x : Arc) : Prop := e.frm ≠ 0 ∧ comB l e.frm = true ∧ wrFrom l e.frm item i = false ∧ x = ⟨e.frm, e.txn, 2, item⟩
def RWp (l : List Ev) (item : Int) (e : Ev) (n : Nat) (x : Arc) : Prop := ∃ j : Nat, j < n ∧ ∃ b, (vv l item)[j]? = some e.frm ∧ (vv l item)[j + 1]? = some b ∧ x = ⟨e.txn, b, 3, item⟩
def RDe (l : List Ev) (item : Int) (i : Nat) (e : Ev) (x : Arc) : Prop := e.op = 2 ∧ e.item = item ∧ comB l e.txn = true ∧ (WRp l item i e x ∨ RWp l item e ((vv l item).length - 1) x)
def RDp (l : List Ev) (item : Int) (n : Nat) (x : Arc) : Prop := ∃ (i : Nat) (e : Ev), i < n ∧ l[i]? = some e ∧ RDe l item i e x
def AllTo (l : List Ev) (k : Nat) (x : Arc) : Prop := ∃ item : Int, 1 ≤ item ∧ item ≤ (k : Int) ∧ (WWp l item ((vv l item).length - 1) x ∨ RDp l item l.length x)
theorem WWp.succ {l : List Ev} {item : Int} {n : Nat} {a b : Int} (ha : (vv l item)[n]? = some a) (hb : (vv l item)[n + 1]? = some b) (x : Arc) : WWp l item (n + 1) x ↔ WWp l item n x ∨ x = ⟨a, b, 1, item⟩ := by
  constructor
  · rintro ⟨j, hj, a', b', h1, h2, h3⟩
    by_cases e : j = n
    · subst e
      rw [ha] at h1; rw [hb] at h2
      cases h1; cases h2
      exact .inr h3
    · exact .inl ⟨j, by omega, a', b', h1, h2, h3⟩
  · rintro (⟨j, hj, h⟩ | rfl)
    · exact ⟨j, by omega, h⟩
    · exact ⟨n, by omega, a, b, ha, hb, rfl⟩
theorem RWp.succ {l : List Ev} {item : Int} {e : Ev} {n : Nat} {a b : Int} (ha : (vv l item)[n]? = some a) (hb : (vv l item)[n + 1]? = some b) (x : Arc) : RWp l item e (n + 1) x ↔ RWp l item e n x ∨ (a = e.frm ∧ x = ⟨e.txn, b, 3, item⟩) := by
  constructor
  · rintro ⟨j, hj, b', h1, h2, h3⟩
    by_cases ej : j = n
    · subst ej
      rw [ha] at h1; rw [hb] at h2
      cases h1; cases h2
      exact .inr ⟨rfl, h3⟩
    · exact .inl ⟨j, by omega, b', h1, h2, h3⟩
  · rintro (⟨j, hj, h⟩ | ⟨rfl, rfl⟩)
    · exact ⟨j, by omega, h⟩
    · exact ⟨n, by omega, b, ha, hb, rfl⟩
theorem RDp.succ {l : List Ev} {item : Int} {n : Nat} {e : Ev} (he : l[n]? = some e) (x : Arc) : RDp l item (n + 1) x ↔ RDp l item n x ∨ RDe l item n e x := by
  constructor
  · rintro ⟨i, e', hi, h1, h2⟩
    by_cases ei : i = n
    · subst ei
      rw [he] at h1; cases h1
      exact .inr h2
    · exact .inl ⟨i, e', by omega, h1, h2⟩
  · rintro (⟨i, e', hi, h⟩ | h)
    · exact ⟨i, e', by omega, h⟩
    · exact ⟨n, e, by omega, he, h⟩
theorem AllTo.succ {l : List Ev} {k : Nat} {item : Int} (hi : item = ((k + 1 : Nat) : Int)) (x : Arc) : AllTo l (k + 1) x ↔ AllTo l k x ∨ (WWp l item ((vv l item).length - 1) x ∨ RDp l item l.length x) := by
  constructor
  · rintro ⟨m, h1, h2, h3⟩
    by_cases e : m = item
    · rw [← e]; exact .inr h3
    · exact .inl ⟨m, h1, by omega, h3⟩
  · rintro (⟨m, h1, h2, h3⟩ | h)
    · exact ⟨m, h1, by omega, h3⟩
    · exact ⟨item, by omega, by omega, h⟩
theorem vv_rng {l : List Ev} (hok : OkTo l l.length) {item v : Int} {j : Nat} (h : (vv l item)[j]? = some v) : 0 ≤ v ∧ v ≤ 200 := by
  have hm := List.mem_of_getElem? h
  unfold vv at hm
  rcases List.mem_cons.1 hm with rfl | hm
  · omega
  · have := com_in hok (vers_com hm); omega
/-- In a valid history all numbers are of transactions. -/
theorem ev_nums {l : List Ev} (hok : OkTo l l.length) {i : Nat} {x : Ev} (hx : l[i]? = some x) : inB x.txn = true ∧ (x.frm = 0 ∨ inB x.frm = true) := by
  have hi := (List.getElem?_eq_some_iff.1 hx).1
  obtain ⟨h1, _, _, h2⟩ := ev_parts (hok i x hi hx)
  refine ⟨h1, ?_⟩
  rcases h2 with ⟨_, hp⟩ | ⟨_, _, _, hf⟩ | ⟨_, _, _, _, hf⟩ | ⟨_, hp⟩
  · unfold plainB at hp; simp at hp; exact .inl hp.2.1
  · rcases hf with hf | hf
    · exact .inl hf
    · obtain ⟨j, y, hj, hy, hp⟩ := any_take.1 hf
      have := (ev_parts (hok j y (by omega) hy)).1
      rw [(isW_iff.1 hp).2.1] at this
      exact .inr this
  · exact .inl hf
  · unfold plainB at hp; simp at hp; exact .inl hp.2.1
section
variable {H H' H0 : Hp} {Q : Value → Hp → Prop} {g ga : Nat} {A : Option Addr} {n c : Nat} {l : List Ev}
theorem HisAt.comF (B : HisAt H g ga A n c l) {t : Int} {K : Nat → Nat → Prop} (h0 : 0 ≤ t) (h1 : t ≤ 200) (hk : cl H ga (0 + t.toNat * 1) = some (.int .i64 (comV l t)) → K ga 0) : onPtr (some ⟨ga, 0, none⟩) K := by
  refine onPtrI (hk ?_)
  have := B.com.get (x := t) h0 (by omega)
  rw [show ((t.toNat : Nat) : Int) = t by omega] at this
  exact this
set_option maxHeartbeats 1000000 in
theorem c55 (B : HisAt H g ga A n c l) (hok : OkTo l l.length) (hs : l.length ≤ 2000) (hq : ∀ A' n' c' out H', Ext H H' → ArcOut H' A' n' c' out (AllTo l 200) → Q (.slice A' n' c') H') : HCalls Tryz.prog 55 [.pointer (some ⟨g, 0, none⟩)] H Q := by
  refine f55.ok _ _ ?_
  unfold f55
  have hA := B.evs
  obtain rfl := hA.len
  have hlt := hA.lt
  refine loop_to 200 (fun i st H' => ∃ A1 n1 c1 out, st = (((A1, n1, c1), (((i + 1 : Nat) : Int), ())), ()) ∧ Ext H H' ∧ ArcOut H' A1 n1 c1 out (AllTo l i)) ⟨none, 0, 0, [], rfl, Ext.refl _, ⟨rfl, .inl rfl, by unfold huge; decide⟩, Nat.le_refl _, List.Pairwise.nil, fun x hx => (by cases hx), fun x => ⟨fun h => (by cases h), fun ⟨_, m, h1, h2, _⟩ => by omega⟩⟩ ?_
  rintro i st H2 next hi ⟨A1, n1, c1, out, rfl, hx2, O2⟩ hnext
  dsimp only
  by_cases hi200 : i < 200
  rotate_left
  · obtain rfl : i = 200 := by omega
    exact cndF (decide_eq_false (by omega)) (hq A1 n1 c1 out H2 hx2 O2)
  generalize hitem : ((i + 1 : Nat) : Int) = item at hnext ⊢
  have hir : 1 ≤ item ∧ item ≤ 200 := by omega
  have B2 := B.ext hx2
  refine cndT (decide_eq_true (by omega)) (c88 B2 hok hs fun A6 c6 H5 x5 S6 => ⟨_, _, _, rfl, ?_⟩)
  have hvl := S6.lt
  have hv0 : 0 < (vv l item).length := by unfold vv; simp
  have hvs : (vv l item).length ≤ 2001 := by have := vers_len (l := l) (k := item); unfold vv; rw [List.length_cons]; omega
  have ei1 : ∀ j : Nat, j < 100000 → IntKind.i64.wrap (((j + 1 : Nat) : Int) + 1) = ((j + 1 + 1 : Nat) : Int) := fun j hj => by rw [wrap_id (by omega) (by omega)]; rfl
  have em1 : ∀ j : Nat, j < 100000 → IntKind.i64.wrap (((j + 1 : Nat) : Int) - 1) = (j : Int) := fun j hj => by rw [wrap_id (by omega) (by omega)]; omega
  refine loop_to ((vv l item).length - 1) (fun j st H' => ∃ A1 n1 c1 out, st = (((A1, n1, c1), (((j + 1 : Nat) : Int), ())), ()) ∧ Ext H5 H' ∧ ArcOut H' A1 n1 c1 out (fun x => AllTo l i x ∨ WWp l item j x)) ⟨A1, n1, c1, out, rfl, Ext.refl _, (O2.ext x5).congr fun x => ⟨.inl, fun h => h.elim id fun ⟨j, hj, _⟩ => absurd hj (by omega)⟩⟩ ?_
  rintro j st H8 next2 hj ⟨A7, n7, c7, out7, rfl, hx8, O8⟩ hnext2
  dsimp only
  by_cases hjl : j + 1 < (vv l item).length
  · obtain ⟨a, ha⟩ := get_of (l := vv l item) (i := j) (by omega)
    obtain ⟨b, hb⟩ := get_of (l := vv l item) (i := j + 1) hjl
    have S8 := S6.ext hx8
    rw [em1 j (by omega)]
    refine cndT (decide_eq_true (by omega)) ⟨by omega, by omega, rd_in S8 ha fun q o _ k1 => ⟨a, by simpa using k1, by omega, by omega, rd_in S8 hb fun q o _ k2 => ⟨b, by simpa using k2, ?_⟩⟩⟩
    refine c89 (a := ⟨a, b, 1, item⟩) O8 ⟨vv_rng hok ha, vv_rng hok hb, by simp, hir⟩ fun A' n' c' out' H' x' O' => ⟨_, _, _, rfl, rfl, hnext2 _ _ (by omega) ⟨A', n', c', out', by rw [ei1 j (by omega)], hx8.trans x', O'.congr fun x => by rw [WWp.succ ha hb, or_assoc]⟩⟩
  have hje : j = (vv l item).length - 1 := by omega
  subst hje
  have B8 := (B2.ext x5).ext hx8
  have S8 := S6.ext hx8
  refine cndF (decide_eq_false (by omega)) ⟨_, _, _, B8.cl0, ?_⟩
  refine loop_to l.length (fun m st H' => ∃ A1 n1 c1 out, st = (((A1, n1, c1), ((m : Int), ())), ()) ∧ Ext H8 H' ∧ ArcOut H' A1 n1 c1 out (fun x => (AllTo l i x ∨ WWp l item ((vv l item).length - 1) x) ∨ RDp l item m x)) ⟨A7, n7, c7, out7, rfl, Ext.refl _, O8.congr fun x => ⟨.inl, fun h => h.elim id fun ⟨m, e, hm, _⟩ => absurd hm (by omega)⟩⟩ ?_
  rintro m st H19 next3 hm ⟨A18, n18, c18, out18, rfl, hx19, O19⟩ hnext3
  dsimp only
  have B19 := B8.ext hx19
  by_cases hml : m < l.length
  rotate_left
  · obtain rfl : m = l.length := by omega
    refine cndF (decide_eq_false (by omega)) ⟨rfl, hnext _ _ hi200 ⟨A18, n18, c18, out18, by rw [← hitem, ei1 i (by omega)], ((hx2.trans x5).trans hx8).trans hx19, O19.congr fun x => by rw [AllTo.succ hitem.symm, or_assoc]⟩⟩
  obtain ⟨e, he⟩ := get_of hml
  have em : IntKind.i64.wrap ((m : Int) + 1) = ((m + 1 : Nat) : Int) := by rw [wrap_id (by omega) (by omega)]; rfl
  obtain ⟨htin, hfin⟩ := ev_nums hok he
  have ht : 1 ≤ e.txn ∧ e.txn ≤ 200 := by unfold inB at htin; simpa using htin
  have hf : 0 ≤ e.frm ∧ e.frm ≤ 200 := by
    rcases hfin with h | h
    · omega
    · unfold inB at h; simp at h; omega
  refine cndT (decide_eq_true (by omega)) (jn_intro (fun J => ∀ A' n' c' out' H', Ext H8 H' → ArcOut H' A' n' c' out' (fun x => ((AllTo l i x ∨ WWp l item ((vv l item).length - 1) x) ∨ RDp l item m x) ∨ RDe l item m e x) → J A' n' c' H') (fun A' n' c' out' H' a b => ⟨rfl, hnext3 _ _ hml ⟨A', n', c', out', by rw [em], a, b.congr fun x => by rw [RDp.succ he, or_assoc (a := AllTo l i x ∨ _)]⟩⟩) fun J hJ => ⟨by omega, by omega, rd_ev (hA.ext (((hx2.trans x5).trans hx8).trans hx19)) he fun q o _ k1 k2 k3 k4 k5 => ⟨e.op, by simpa using k1, e.txn, by simpa using k2, e.item, by simpa using k3, e.frm, by simpa using k4, e.stmt, by simpa using k5, ?_⟩⟩)
  refine jn_intro (fun J31 => ∀ b, b = !((e.op == 2) && ((e.item == item) && comB l e.txn)) → J31 b) (fun b hb => cndI (fun hbt => ?_) fun hbf => ?_) fun J31 h31 => cndI (fun h1 => h31 _ ?_) fun h1 => cndI (fun h2 => h31 _ ?_) fun h2 => ⟨_, _, _, B19.cl1, by omega, by show e.txn < ((201 : Nat) : Int); omega, B19.comF (by omega) ht.2 fun hcl => ⟨_, hcl, h31 _ ?_⟩⟩
  · have hno : ∀ x, ¬ RDe l item m e x := fun x ⟨h1, h2, h3, _⟩ => by
      rw [hbt, h1, h2, h3] at hb
      simp at hb
    exact hJ A18 n18 c18 out18 H19 hx19 (O19.congr fun x => ⟨.inl, fun h => h.elim id fun h => absurd h (hno x)⟩)
  · rw [hbf] at hb
    have hb := not_f hb
    simp only [Bool.and_eq_true, beq_iff_eq] at hb
    obtain ⟨ho2, hei, hcom⟩ := hb
    refine jn_intro (fun J48 => ∀ A' n' c' out' H', Ext H8 H' → ArcOut H' A' n' c' out' (fun x => ((AllTo l i x ∨ WWp l item ((vv l item).length - 1) x) ∨ RDp l item m x) ∨ WRp l item m e x) → J48 A' n' c' H') (fun A' n' c' out' H' hx' O' => ?_) fun J48 h48 => ?_
    · have S' := S8.ext hx'
      refine loop_to ((vv l item).length - 1) (fun j st H' => ∃ A1 n1 c1 out, st = (((A1, n1, c1), (((j + 1 : Nat) : Int), ())), ()) ∧ Ext H8 H' ∧ ArcOut H' A1 n1 c1 out (fun x => (((AllTo l i x ∨ WWp l item ((vv l item).length - 1) x) ∨ RDp l item m x) ∨ WRp l item m e x) ∨ RWp l item e j x)) ⟨A', n', c', out', rfl, hx', O'.congr fun x => ⟨.inl, fun h => h.elim id fun ⟨j, hj, _⟩ => absurd hj (by omega)⟩⟩ ?_
      rintro j st H50 next4 hj ⟨A49, n49, c49, out49, rfl, hx50, O50⟩ hnext4
      dsimp only
      by_cases hjl2 : j + 1 < (vv l item).length
      · obtain ⟨a, ha⟩ := get_of (l := vv l item) (i := j) (by omega)
        obtain ⟨b, hb⟩ := get_of (l := vv l item) (i := j + 1) hjl2
        have S50 := S8.ext hx50
        rw [em1 j (by omega)]
        refine cndT (decide_eq_true (by omega)) (jn_intro (fun J63 => ∀ A' n' c' out' H', Ext H8 H' → ArcOut H' A' n' c' out' (fun x => (((AllTo l i x ∨ WWp l item ((vv l item).length - 1) x) ∨ RDp l item m x) ∨ WRp l item m e x) ∨ RWp l item e (j + 1) x) → J63 A' n' c' H') (fun A' n' c' out' H' a b => ⟨rfl, hnext4 _ _ (by omega) ⟨A', n', c', out', by rw [ei1 j (by omega)], a, b⟩⟩) fun J63 h63 => ⟨by omega, by omega, rd_in S50 ha fun q o _ k1 => ⟨a, by simpa using k1, cndI (fun heq => ⟨by omega, by omega, rd_in S50 hb fun q o _ k2 => ⟨b, by simpa using k2, ?_⟩⟩) fun hne => ?_⟩⟩)
        · have heq : a = e.frm := by simpa using heq
          refine c89 (a := ⟨e.txn, b, 3, item⟩) O50 ⟨by simp; omega, vv_rng hok hb, by simp, hir⟩ fun A' n' c' out' H' x' O' => ⟨_, _, _, rfl, h63 A' n' c' out' H' (hx50.trans x') (O'.congr fun x => by rw [RWp.succ ha hb, or_assoc]; simp only [heq, true_and])⟩
        · have hne : a ≠ e.frm := by simpa using hne
          exact h63 A49 n49 c49 out49 H50 hx50 (O50.congr fun x => by rw [RWp.succ ha hb]; simp only [hne, false_and, or_false])
      · have hje : j = (vv l item).length - 1 := by omega
        subst hje
        refine cndF (decide_eq_false (by omega)) (hJ A49 n49 c49 out49 H50 hx50 (O50.congr fun x => ?_))
        unfold RDe
        simp only [ho2, hei, hcom, true_and]
        rw [or_assoc (a := (AllTo l i x ∨ _) ∨ _)]
    · refine jn_intro (fun J40 => ∀ b H', Ext H19 H' → b = ((e.frm != 0) && (comB l e.frm && !wrFrom l e.frm item m)) → J40 b H') (fun b H39 x39 hb => cndI (fun hbt => ?_) fun hbf => ?_) fun J40 h40 => cndI (fun h0 => ⟨_, _, _, B19.cl1, by omega, by show e.frm < ((201 : Nat) : Int); omega, B19.comF (by omega) hf.2 fun hcl => ⟨_, hcl, cndI (fun hge => c90 B19 (by omega) ⟨_, rfl, h40 _ H19 (Ext.refl _) ?_⟩) fun hge => h40 _ H19 (Ext.refl _) ?_⟩⟩) fun h0 => h40 _ H19 (Ext.refl _) ?_
      · rw [hbt] at hb
        have hb := hb.symm
        simp only [Bool.and_eq_true, bne_iff_ne, ne_eq, Bool.not_eq_true'] at hb
        refine c89 (a := ⟨e.frm, e.txn, 2, item⟩) (O19.ext x39) ⟨hf, by simp; omega, by simp, hir⟩ fun A' n' c' out' H' x' O' => ⟨_, _, _, rfl, h48 A' n' c' out' H' ((hx19.trans x39).trans x') (O'.congr fun x => ?_)⟩
        unfold WRp
        simp only [ne_eq, hb.1, hb.2.1, hb.2.2, not_false_eq_true, true_and]
      · rw [hbf] at hb
        have hno : ∀ x, ¬ WRp l item m e x := fun x ⟨h1, h2, h3, _⟩ => by
          rw [h2, h3] at hb
          simp at hb
          exact h1 hb
        exact h48 A18 n18 c18 out18 H39 (hx19.trans x39) ((O19.ext x39).congr fun x => ⟨.inl, fun h => h.elim id fun h => absurd h (hno x)⟩)
      · rw [h0, ← comV_ge, hge]; rfl
      · rw [← comV_ge, hge]; simp
      · rw [h0]; rfl
  · have : (e.op == 2) = false := by unfold bne at h1; cases h : e.op == 2 <;> rw [h] at h1 <;> simp_all
    rw [this]; rfl
  · have : (e.item == item) = false := by unfold bne at h2; cases h : e.item == item <;> rw [h] at h2 <;> simp_all
    rw [this]; simp
  · have e1 : (e.op == 2) = true := by unfold bne at h1; cases h : e.op == 2 <;> rw [h] at h1 <;> simp_all
    have e2 : (e.item == item) = true := by unfold bne at h2; cases h : e.item == item <;> rw [h] at h2 <;> simp_all
    rw [comV_lt, e1, e2]; rfl
end
end Go.Proofs.YtibhpoikhkokiaaGreat.Hw

/- The document's arcs are the program's (plain law; c19, c20). -/
set_option linter.unusedVariables false
set_option linter.unusedSimpArgs false
set_option linter.unusedSectionVars false
set_option maxRecDepth 20000
namespace Go.Proofs.YtibhpoikhkokiaaGreat.Hw
open Go Go.Proofs
section
variable {l : List Ev} (hok : OkTo l l.length)
include hok
theorem item_in {item v : Int} (h : v ∈ versM l item) : 1 ≤ item ∧ item ≤ 200 := by
  obtain ⟨j, x, hx, ho, ht, hw⟩ := vers_get h
  obtain ⟨i, y, hi, hy, hp⟩ := any_take.1 hw
  obtain ⟨y1, y2, y3⟩ := isW_iff.1 hp
  have hyl := (List.getElem?_eq_some_iff.1 hy).1
  obtain ⟨_, _, _, h4⟩ := ev_parts (hok i y hyl hy)
  rcases h4 with ⟨h, _⟩ | ⟨h, _⟩ | ⟨_, h, _⟩ | ⟨h, _⟩
  · omega
  · omega
  · rw [y3] at h
    unfold inB at h; simpa using h
  · omega
theorem read_in {i : Nat} {e : Ev} (he : l[i]? = some e) (ho : e.op = 2) : (1 ≤ e.item ∧ e.item ≤ 200) ∧ (e.frm = 0 ∨ wroteM (l.take i) e.frm e.item = true) := by
  obtain ⟨_, _, _, h4⟩ := ev_parts (hok i e (List.getElem?_eq_some_iff.1 he).1 he)
  rcases h4 with ⟨h, _⟩ | ⟨_, h, _, h5⟩ | ⟨h, _⟩ | ⟨h, _⟩
  · omega
  · refine ⟨?_, h5⟩
    unfold inB at h; simpa using h
  · omega
  · omega
theorem from_iff {i : Nat} {t item : Int} : wrFrom l t item i = false ↔ natOr (lastW l t item) < i ∨ lastW l t item = none := by
  unfold wrFrom
  constructor
  · intro h
    cases hw : lastW l t item with
    | none => exact .inr rfl
    | some w =>
      refine .inl ?_
      show w < i
      apply Nat.lt_of_not_le
      intro hle
      obtain ⟨x, hx, hp, _⟩ := lastI_some hw
      rw [List.any_eq_false] at h
      have hm : x ∈ l.drop i := List.mem_of_getElem? (i := w - i) (by rw [List.getElem?_drop, show i + (w - i) = w by omega]; exact hx)
      exact h x hm hp
  · intro h
    rw [← Bool.not_eq_true, List.any_eq_true]
    rintro ⟨x, hx, hp⟩
    obtain ⟨m, hm⟩ := List.getElem?_of_mem hx
    rw [List.getElem?_drop] at hm
    obtain ⟨j, hj, hle⟩ := lastI_ge hm hp
    have hj' : lastW l t item = some j := hj
    rw [hj'] at h
    rcases h with h | h
    · have : j < i := h
      omega
    · cases h
theorem next_of {item f b : Int} {j : Nat} (h1 : (versM l item)[j]? = some f) (h2 : (versM l item)[j + 1]? = some b) (hf : f ≠ 0) : nextM l item f = b := by
  unfold nextM
  rw [if_neg (by simpa using hf)]
  obtain ⟨g1, g2⟩ := List.getElem?_eq_some_iff.1 h1
  have : (versM l item).findIdx? (fun y => f == y) = some j := by
    rw [List.findIdx?_eq_some_iff_getElem]
    refine ⟨g1, by rw [g2]; simp, fun m hm he => ?_⟩
    have he : f = (versM l item)[m] := by simpa using he
    have := List.pairwise_iff_getElem.1 (rise hok item) m j (by omega) g1 hm
    rw [g2, ← he] at this
    omega
  rw [this]
  show ((versM l item)[j + 1]?).getD 0 = b
  rw [h2]; rfl
theorem all_iff {x : Arc} : (okA x ∧ AllTo l 200 x) ↔ ArcIs l x := by
  have hvv : ∀ (item : Int) (j : Nat), (vv l item)[j + 1]? = (versM l item)[j]? := fun item j => rfl
  have hvl : ∀ item : Int, (vv l item).length = (versM l item).length + 1 := fun item => rfl
  have vnz : ∀ {item v : Int} {j : Nat}, (versM l item)[j]? = some v → v ≠ 0 := fun {item v j} h => by
    have := com_in hok (vers_com (List.mem_of_getElem? h)); omega
  constructor
  · rintro ⟨⟨hne, ha0, hb0⟩, item, hi1, hi2, ⟨j, hj, a, b, h1, h2, rfl⟩ | ⟨i, e, hi, he, ho, hei, hcom, ⟨h1, h2, h3, rfl⟩ | ⟨j, hj, b, h1, h2, rfl⟩⟩⟩
    · cases j with
      | zero => cases h1; exact absurd rfl ha0
      | succ j =>
        rw [hvv] at h1 h2
        exact ⟨hne, vers_com (List.mem_of_getElem? h1), vers_com (List.mem_of_getElem? h2), .inl ⟨rfl, j, h1, h2⟩⟩
    · refine ⟨hne, h2, hcom, .inr (.inl ⟨rfl, i, e, he, ho, ?_, rfl, rfl, hei.symm⟩)⟩
      rw [hei]
      rcases (from_iff hok).1 h3 with h | h
      · exact h
      · rcases (read_in hok he ho).2 with h5 | h5
        · exact absurd h5 h1
        · exfalso
          obtain ⟨m, y, _, hy, hp⟩ := any_take.1 h5
          rw [hei] at hp
          have := lastI_none (p := isW e.frm item) h hy
          rw [hp] at this; cases this
    · rw [hvv] at h2
      have hcb := vers_com (List.mem_of_getElem? h2)
      refine ⟨hne, hcom, hcb, .inr (.inr ⟨rfl, i, e, he, ho, ?_, rfl, ?_, hei.symm⟩)⟩
      · cases j with
        | zero => exact .inl (by unfold vv at h1; simpa using h1.symm)
        | succ j =>
          rw [hvv] at h1
          exact .inr (vers_com (List.mem_of_getElem? h1))
      · rw [hei]
        cases j with
        | zero =>
          have : e.frm = 0 := by unfold vv at h1; simpa using h1.symm
          show b = nextM l item e.frm
          unfold nextM
          rw [this, if_pos (by rfl), h2]; rfl
        | succ j =>
          rw [hvv] at h1
          exact (next_of hok h1 h2 (vnz h1)).symm
  · rintro ⟨hne, hca, hcb, ⟨hk, j, h1, h2⟩ | ⟨hk, i, e, he, ho, hlt, ea, eb, ei⟩ | ⟨hk, i, e, he, ho, hc, ea, eb, ei⟩⟩
    all_goals have hai := com_in hok hca
    all_goals have hbi := com_in hok hcb
    all_goals refine ⟨⟨hne, by omega, by omega⟩, ?_⟩
    · have hin := item_in hok (List.mem_of_getElem? h1)
      have hj2 := (List.getElem?_eq_some_iff.1 h2).1
      refine ⟨x.item, hin.1, hin.2, .inl ⟨j + 1, by rw [hvl]; omega, x.a, x.b, by rw [hvv]; exact h1, by rw [hvv]; exact h2, ?_⟩⟩
      cases x; simp only at hk; subst hk; rfl
    · have hin := (read_in hok he ho).1
      refine ⟨x.item, by rw [ei]; exact hin.1, by rw [ei]; exact hin.2, .inr ⟨i, e, (List.getElem?_eq_some_iff.1 he).1, he, ho, ei.symm, by rw [← eb]; exact hcb, .inl ⟨by rw [← ea]; omega, by rw [← ea]; exact hca, (from_iff hok).2 (.inl (by rw [ei]; exact hlt)), ?_⟩⟩⟩
      cases x; simp only at hk ea eb; subst hk ea eb; rfl
    · have hin := (read_in hok he ho).1
      refine ⟨x.item, by rw [ei]; exact hin.1, by rw [ei]; exact hin.2, .inr ⟨i, e, (List.getElem?_eq_some_iff.1 he).1, he, ho, ei.symm, by rw [← ea]; exact hca, .inr ?_⟩⟩
      have hx : x = ⟨e.txn, x.b, 3, x.item⟩ := by cases x; simp only at hk ea; subst hk ea; rfl
      rcases next_get eb.symm (by omega) with ⟨hf, hv⟩ | ⟨hf, j, hv1, hv2⟩
      · rw [← ei] at hv
        have hl := (List.getElem?_eq_some_iff.1 hv).1
        exact ⟨0, by rw [hvl]; omega, x.b, by rw [hf]; rfl, by rw [hvv]; exact hv, hx⟩
      · rw [← ei] at hv1 hv2
        have hl := (List.getElem?_eq_some_iff.1 hv2).1
        exact ⟨j + 1, by rw [hvl]; omega, x.b, by rw [hvv]; exact hv1, by rw [hvv]; exact hv2, hx⟩
end
section
variable {H H' : Hp} {Q : Value → Hp → Prop} {A : Option Addr} {n c : Nat} {l : List Ev} {g ga : Nat}
/-- The document's arcs. -/
theorem c55a (B : HisAt H g ga A n c l) (hok : OkTo l l.length) (hs : l.length ≤ 2000) (hq : ∀ A' c' rs H', Ext H H' → ArcsOf l rs → rs.length ≤ 33000000 → SlAt arC H' A' rs.length rs → rs.length ≤ c' → Q (.slice A' rs.length c') H') : HCalls Tryz.prog 55 [.pointer (some ⟨g, 0, none⟩)] H Q := by
  refine c55 B hok hs fun A' n' c' out H' hx O => ?_
  have hl := O.sl.len
  subst hl
  exact hq A' c' out H' hx ⟨O.srt, fun x => by rw [O.mem, all_iff hok, arc_iff]⟩ (arcs_few O.srt O.rng) O.sl O.cap
theorem c19 (hA : SlAt evC H A n l) (hc : n ≤ c) (hq : ArcsQ H Q l) : HCalls Tryz.prog 19 [.slice A n c] H Q := by
  refine f19.ok _ _ _ ?_
  unfold f19
  obtain ⟨q1, q2⟩ := hq
  refine c21 hA fun H2 x2 => ⟨_, rfl, ?_⟩
  cases hv : validM l with
  | false => exact cndT rfl (q1 hv H2 x2)
  | true =>
    obtain ⟨hok, hlen⟩ := valid_ok hv
    exact cndF rfl (c54 (hA.ext x2) hc hok fun g ga H5 x5 B => ⟨_, rfl, c55a B hok hlen fun A9 c9 rs H8 x8 ha _ S9 hc9 => ⟨_, _, _, rfl, q2 hv rs A9 c9 H8 ha ((x2.trans x5).trans x8) S9 hc9⟩⟩)
theorem c20 {A B : Option Addr} {n k ca cb : Nat} {l : List Arc} (hA : SlAt arC H A n l) (hB : SlAt arC H B k l) (hq : Q (.bool true) H) : HCalls Tryz.prog 20 [.slice A n ca, .slice B k cb] H Q := by
  refine f20.ok _ _ _ _ _ _ ?_
  unfold f20
  obtain rfl := hA.len
  obtain rfl := hB.len
  refine cndF (by simp) ?_
  have hl1 := hA.lt
  refine scan hl1 (fun i H' => H' = H) rfl (fun i H2 next hi hI hnext => ?_) (fun H2 next hI => ?_)
  · obtain rfl := hI
    obtain ⟨x, hx⟩ := get_of hi
    dsimp only
    refine cndT (decide_eq_true (by omega)) ⟨by omega, by omega, rd_ar hA hx fun q o _ k1 k2 k3 k4 => ⟨x.a, by simpa using k1, x.b, by simpa using k2, x.kind, by simpa using k3, x.item, by simpa using k4, by omega, by omega, rd_ar hB hx fun q o _ k1 k2 k3 k4 => ⟨x.a, by simpa using k1, x.b, by simpa using k2, x.kind, by simpa using k3, x.item, by simpa using k4, cndF ?_ ⟨rfl, hnext H2 rfl⟩⟩⟩⟩
    simp
  · obtain rfl := hI
    dsimp only
    exact cndF (decide_eq_false (by omega)) hq
end
end Go.Proofs.YtibhpoikhkokiaaGreat.Hw

/- What functions of the program come to, by the evaluator: printed by a program of this session (gen.py) and checked here. -/
set_option linter.unusedVariables false
set_option maxRecDepth 100000
namespace Go.Proofs.YtibhpoikhkokiaaGreat.Hw
open Go Go.Proofs

/-- justiciar justiciarref29.Faults -/
def f22 (pl_A : Option Addr) (pl_n pl_c : Nat) (H : Hp) (Q : Value → Hp → Prop) : Prop :=
  HCalls Tryz.prog 21 [.slice pl_A pl_n pl_c] H fun v1 H2 => ∃ x3 : Bool, v1 = .bool x3 ∧ cnd (!x3) (Q (.tuple #[.slice none 0 0, .int .i64 2]) H2) (HCalls Tryz.prog 54 [.slice pl_A pl_n pl_c] H2 fun v4 H5 => ∃ p6 : Option
    Addr, v4 = .pointer p6 ∧ HCalls Tryz.prog 55 [.pointer p6] H5 fun v7 H8 => ∃ (A9 : Option Addr) (n9 c9 : Nat), v7 = .slice A9 n9 c9 ∧ jn (fun (jA17 : Option Addr) (jn18 : Nat) (jc19 : Nat) (H20 : Hp) => jn (fun (jA29
    : Option Addr) (jn30 : Nat) (jc31 : Nat) (H32 : Hp) => jn (fun (jA41 : Option Addr) (jn42 : Nat) (jc43 : Nat) (H44 : Hp) => jn (fun (jA53 : Option Addr) (jn54 : Nat) (jc55 : Nat) (H56 : Hp) => jn (fun (jA65 : Option
    Addr) (jn66 : Nat) (jc67 : Nat) (H68 : Hp) => jn (fun (jA80 : Option Addr) (jn81 : Nat) (jc82 : Nat) (H83 : Hp) => Q (.tuple #[.slice jA80 jn81 jc82, .int .i64 0]) H83) fun J84 => jn (fun (j73 : Bool) (H74 : Hp) =>
    cnd j73 (newF H74 9 [.string ({ data := #[99, 105, 114, 99, 108, 101, 115, 32, 114, 119] } : ByteArray)] fun g76 H77 => appendF H77 9 1 16 jA65 jn66 jc67 (some ⟨g76, 0, none⟩) 1 fun A78 n78 c78 H79 => J84 A78 n78 c78
    H79) (J84 jA65 jn66 jc67 H74)) fun J75 => cnd ((((jn66 : Nat) : Int) : Int) == ((jn30 : Nat) : Int)) (HCalls Tryz.prog 60 [.slice A9 n9 c9, .int .i64 3, .int .i64 3] H68 fun v70 H71 => ∃ x72 : Bool, v70 = .bool x72 ∧
    J75 x72 H71) (J75 false H68)) fun J69 => HCalls Tryz.prog 60 [.slice A9 n9 c9, .int .i64 3, .int .i64 2] H56 fun v58 H59 => ∃ x60 : Bool, v58 = .bool x60 ∧ cnd x60 (newF H59 9 [.string ({ data := #[99, 105, 114, 99,
    108, 101, 32, 114, 119] } : ByteArray)] fun g61 H62 => appendF H62 9 1 16 jA53 jn54 jc55 (some ⟨g61, 0, none⟩) 1 fun A63 n63 c63 H64 => J69 A63 n63 c63 H64) (J69 jA53 jn54 jc55 H59)) fun J57 => HCalls Tryz.prog 60
    [.slice A9 n9 c9, .int .i64 2, .int .i64 2] H44 fun v46 H47 => ∃ x48 : Bool, v46 = .bool x48 ∧ cnd x48 (newF H47 9 [.string ({ data := #[99, 105, 114, 99, 108, 101, 32, 119, 114] } : ByteArray)] fun g49 H50 => appendF
    H50 9 1 16 jA41 jn42 jc43 (some ⟨g49, 0, none⟩) 1 fun A51 n51 c51 H52 => J57 A51 n51 c51 H52) (J57 jA41 jn42 jc43 H47)) fun J45 => HCalls Tryz.prog 60 [.slice A9 n9 c9, .int .i64 1, .int .i64 1] H32 fun v34 H35 => ∃
    x36 : Bool, v34 = .bool x36 ∧ cnd x36 (newF H35 9 [.string ({ data := #[99, 105, 114, 99, 108, 101, 32, 119, 119] } : ByteArray)] fun g37 H38 => appendF H38 9 1 16 jA29 jn30 jc31 (some ⟨g37, 0, none⟩) 1 fun A39 n39
    c39 H40 => J45 A39 n39 c39 H40) (J45 jA29 jn30 jc31 H35)) fun J33 => HCalls Tryz.prog 59 [.pointer p6] H20 fun v22 H23 => ∃ x24 : Bool, v22 = .bool x24 ∧ cnd x24 (newF H23 9 [.string ({ data := #[114, 101, 97, 100,
    32, 98, 101, 116, 119, 101, 101, 110] } : ByteArray)] fun g25 H26 => appendF H26 9 1 16 jA17 jn18 jc19 (some ⟨g25, 0, none⟩) 1 fun A27 n27 c27 H28 => J33 A27 n27 c27 H28) (J33 jA17 jn18 jc19 H23)) fun J21 => HCalls
    Tryz.prog 58 [.pointer p6] H8 fun v10 H11 => ∃ x12 : Bool, v10 = .bool x12 ∧ cnd x12 (newF H11 9 [.string ({ data := #[97, 98, 111, 114, 116, 101, 100, 32, 114, 101, 97, 100] } : ByteArray)] fun g13 H14 => appendF H14
    9 1 16 none 0 0 (some ⟨g13, 0, none⟩) 1 fun A15 n15 c15 H16 => J21 A15 n15 c15 H16) (J21 none 0 0 H11))
noncomputable def fcx22 : Cx := cx 54 [] [] [] []
theorem f22.eq (pl_A : Option Addr) (pl_n pl_c : Nat) (H : Hp) (Q : Value → Hp → Prop) : f22 pl_A pl_n pl_c H Q = wFun fcx22 Tryz.f22 [.slice pl_A pl_n pl_c] H Q := by kernel_rfl
theorem f22.ok (pl_A : Option Addr) (pl_n pl_c : Nat) {H : Hp} {Q : Value → Hp → Prop} (h : f22 pl_A pl_n pl_c H Q) : HCalls Tryz.prog 22 [.slice pl_A pl_n pl_c] H Q := hcalls_of (cxOk 54 [] [] [] []) Tryz.func22 (Eq.mp (f22.eq pl_A pl_n pl_c H Q) h)

/-- justiciar justiciarref29.circle -/
def f60 (pl_A : Option Addr) (pl_n pl_c : Nat) (pkind : Int) (pmost : Int) (H : Hp) (Q : Value → Hp → Prop) : Prop :=
  LoopF (σ := (Int × Unit) × Unit) ((0, ()), ()) H fun s1 H2 next3 => cnd (decide ((s1.1.1 : Int) < ((pl_n : Nat) : Int))) (0 ≤ (s1.1.1 : Int) ∧ (s1.1.1 : Int) < ((pl_n : Nat) : Int) ∧ onPtr pl_A fun b4 o4 => ∃ x5 : Int, cl
    H2 b4 (o4 + (s1.1.1 : Int).toNat * 4) = some (.int .i64 x5) ∧ ∃ x6 : Int, cl H2 b4 ((o4 + (s1.1.1 : Int).toNat * 4) + 1) = some (.int .i64 x6) ∧ ∃ x7 : Int, cl H2 b4 (((o4 + (s1.1.1 : Int).toNat * 4) + 1) + 1) = some
    (.int .i64 x7) ∧ ∃ x8 : Int, cl H2 b4 ((((o4 + (s1.1.1 : Int).toNat * 4) + 1) + 1) + 1) = some (.int .i64 x8) ∧ jn (fun (j12 : Bool) (H13 : Hp) => cnd j12 (Q (.bool true) H13) (KeepX [some (.v (.slice pl_A pl_n
    pl_c)), some (.v (.int .i64 pkind)), some (.v (.int .i64 pmost)), some (.v (.slice pl_A pl_n pl_c)), some (.v (.int .i64 ((pl_n : Nat) : Int)))] [] ∧ next3 ((IntKind.i64.wrap (s1.1.1 + 1), ()), ()) H13)) fun J14 =>
    cnd ((x7 : Int) == pkind) (HCalls Tryz.prog 91 [.slice pl_A pl_n pl_c, .int .i64 pmost, .int .i64 x6, .int .i64 x5] H2 fun v9 H10 => ∃ x11 : Bool, v9 = .bool x11 ∧ J14 x11 H10) (J14 false H2)) (Q (.bool false) H2)
noncomputable def fcx60 : Cx := cx 29 [(8, true)] [(2, ⟨[0, 1, 2, 9, 10], [], [(11, .int .i64)], []⟩)] [] []
theorem f60.eq (pl_A : Option Addr) (pl_n pl_c : Nat) (pkind : Int) (pmost : Int) (H : Hp) (Q : Value → Hp → Prop) : f60 pl_A pl_n pl_c pkind pmost H Q = wFun fcx60 Tryz.f60 [.slice pl_A pl_n pl_c, .int .i64 pkind, .int .i64 pmost] H Q := by kernel_rfl
theorem f60.ok (pl_A : Option Addr) (pl_n pl_c : Nat) (pkind : Int) (pmost : Int) {H : Hp} {Q : Value → Hp → Prop} (h : f60 pl_A pl_n pl_c pkind pmost H Q) : HCalls Tryz.prog 60 [.slice pl_A pl_n pl_c, .int .i64 pkind, .int .i64 pmost] H Q := hcalls_of (cxOk 29 [(8, true)] [(2, ⟨[0, 1, 2, 9, 10], [], [(11, .int .i64)], []⟩)] [] []) Tryz.func60 (Eq.mp (f60.eq pl_A pl_n pl_c pkind pmost H Q) h)

/-- justiciar justiciarref29.leads -/
def f91 (pl_A : Option Addr) (pl_n pl_c : Nat) (pmost : Int) (pfrm : Int) (pto : Int) (H : Hp) (Q : Value → Hp → Prop) : Prop :=
  newF H 3 [.int .i64 pfrm] fun g1 H2 => LoopF (σ := ((Option Addr × Nat × Nat) × (Int × Unit)) × Unit) ((((some ⟨g1, 0, none⟩), 1, 1), (0, ())), ()) H2 fun s3 H4 next5 => cnd (decide ((s3.1.2.1 : Int) < ((s3.1.1.2.1 : Nat)
    : Int))) (LoopF (σ := ((Option Addr × Nat × Nat) × (Int × Unit)) × Unit) (((s3.1.1.1, s3.1.1.2.1, s3.1.1.2.2), (0, ())), ()) H4 fun s6 H7 next8 => cnd (decide ((s6.1.2.1 : Int) < ((pl_n : Nat) : Int))) (jn (fun (jA25
    : Option Addr) (jn26 : Nat) (jc27 : Nat) (H28 : Hp) => KeepX [some (.v (.slice pl_A pl_n pl_c)), some (.v (.int .i64 pmost)), some (.v (.int .i64 pto)), some (.v (.int .i64 s3.1.2.1)), some (.v (.slice pl_A pl_n
    pl_c)), some (.v (.int .i64 ((pl_n : Nat) : Int)))] [] ∧ next8 (((jA25, jn26, jc27), (IntKind.i64.wrap (s6.1.2.1 + 1), ())), ()) H28) fun J29 => 0 ≤ (s6.1.2.1 : Int) ∧ (s6.1.2.1 : Int) < ((pl_n : Nat) : Int) ∧ onPtr
    pl_A fun b9 o9 => ∃ x10 : Int, cl H7 b9 (o9 + (s6.1.2.1 : Int).toNat * 4) = some (.int .i64 x10) ∧ ∃ x11 : Int, cl H7 b9 ((o9 + (s6.1.2.1 : Int).toNat * 4) + 1) = some (.int .i64 x11) ∧ ∃ x12 : Int, cl H7 b9 (((o9 +
    (s6.1.2.1 : Int).toNat * 4) + 1) + 1) = some (.int .i64 x12) ∧ ∃ x13 : Int, cl H7 b9 ((((o9 + (s6.1.2.1 : Int).toNat * 4) + 1) + 1) + 1) = some (.int .i64 x13) ∧ jn (fun (j16 : Bool) => cnd j16 (J29 s6.1.1.1
    s6.1.1.2.1 s6.1.1.2.2 H7) (cnd ((x11 : Int) == pto) (Q (.bool true) H7) (HCalls Tryz.prog 57 [.slice s6.1.1.1 s6.1.1.2.1 s6.1.1.2.2, .int .i64 x11] H7 fun v18 H19 => ∃ x20 : Bool, v18 = .bool x20 ∧ cnd (!x20) (newF
    H19 3 [.int .i64 x11] fun g21 H22 => appendF H22 3 1 8 s6.1.1.1 s6.1.1.2.1 s6.1.1.2.2 (some ⟨g21, 0, none⟩) 1 fun A23 n23 c23 H24 => J29 A23 n23 c23 H24) (J29 s6.1.1.1 s6.1.1.2.1 s6.1.1.2.2 H19)))) fun J17 => 0 ≤
    (s3.1.2.1 : Int) ∧ (s3.1.2.1 : Int) < ((s6.1.1.2.1 : Nat) : Int) ∧ onPtr s6.1.1.1 fun b14 o14 => ∃ x15 : Int, cl H7 b14 (o14 + (s3.1.2.1 : Int).toNat * 1) = some (.int .i64 x15) ∧ cnd ((x10 : Int) != x15) (J17 true)
    (J17 (decide ((x12 : Int) > pmost)))) (KeepX [some (.v (.slice pl_A pl_n pl_c)), some (.v (.int .i64 pmost)), some (.v (.int .i64 pto))] [] ∧ next5 (((s6.1.1.1, s6.1.1.2.1, s6.1.1.2.2), (IntKind.i64.wrap (s3.1.2.1 +
    1), ())), ()) H7)) (Q (.bool false) H4)
noncomputable def fcx91 : Cx := cx 55 [(12, true)] [(3, ⟨[0, 1, 3], [], [(9, .slice), (10, .int .i64)], []⟩), (6, ⟨[0, 1, 3, 10, 21, 22], [], [(9, .slice), (23, .int .i64)], []⟩)] [(8, (.look 0 (.look 1 (.look 2 (.look 3 (.look 4 (.look 5 (.look 6 (.look 7 (.look 8 (.look 9 (.look 10 (.look 11 (.look 12 .done))))))))))))))] []
theorem f91.eq (pl_A : Option Addr) (pl_n pl_c : Nat) (pmost : Int) (pfrm : Int) (pto : Int) (H : Hp) (Q : Value → Hp → Prop) : f91 pl_A pl_n pl_c pmost pfrm pto H Q = wFun fcx91 Tryz.f91 [.slice pl_A pl_n pl_c, .int .i64 pmost, .int .i64 pfrm, .int .i64 pto] H Q := by kernel_rfl
theorem f91.ok (pl_A : Option Addr) (pl_n pl_c : Nat) (pmost : Int) (pfrm : Int) (pto : Int) {H : Hp} {Q : Value → Hp → Prop} (h : f91 pl_A pl_n pl_c pmost pfrm pto H Q) : HCalls Tryz.prog 91 [.slice pl_A pl_n pl_c, .int .i64 pmost, .int .i64 pfrm, .int .i64 pto] H Q := hcalls_of (cxOk 55 [(12, true)] [(3, ⟨[0, 1, 3], [], [(9, .slice), (10, .int .i64)], []⟩), (6, ⟨[0, 1, 3, 10, 21, 22], [], [(9, .slice), (23, .int .i64)], []⟩)] [(8, (.look 0 (.look 1 (.look 2 (.look 3 (.look 4 (.look 5 (.look 6 (.look 7 (.look 8 (.look 9 (.look 10 (.look 11 (.look 12 .done))))))))))))))] []) Tryz.func91 (Eq.mp (f91.eq pl_A pl_n pl_c pmost pfrm pto H Q) h)

end Go.Proofs.YtibhpoikhkokiaaGreat.Hw

/- The document's histories: faults (c58, c59, c65, c91, c60, c22). -/
set_option linter.unusedVariables false
set_option linter.unusedSimpArgs false
set_option linter.unusedSectionVars false
set_option maxRecDepth 20000
namespace Go.Proofs.YtibhpoikhkokiaaGreat.Hw
open Go Go.Proofs
theorem from_read {l : List Ev} (hok : OkTo l l.length) {i : Nat} {e : Ev} (he : l[i]? = some e) (ho : e.op = 2) {t item : Int} : wrFrom l t item i = decide (i < natOr (lastW l t item)) := by
  cases hb : wrFrom l t item i with
  | false =>
    rcases (from_iff hok).1 hb with h | h
    · exact (decide_eq_false (by omega)).symm
    · rw [h]; exact (decide_eq_false (by unfold natOr; simp)).symm
  | true =>
    refine (decide_eq_true ?_).symm
    apply Nat.lt_of_not_le
    intro hle
    have hnf : ¬ wrFrom l t item i = false := by rw [hb]; decide
    rw [from_iff hok] at hnf
    cases hw : lastW l t item with
    | none => exact hnf (.inr hw)
    | some w =>
      rw [hw] at hle hnf
      have hle : w ≤ i := hle
      by_cases e1 : w = i
      · obtain ⟨x, hx, hp, _⟩ := lastI_some hw
        rw [e1, he] at hx; cases hx
        have := (isW_iff.1 hp).1
        omega
      · exact hnf (.inl (show w < i by omega))
def upTo (most : Int) (k : Int) : Bool := decide (k ≤ most)
open Classical in
noncomputable def leadsB (rs : List Arc) (most s t : Int) : Bool := decide (∃ x ∈ rs, ReachR rs (upTo most) s x.a ∧ x.kind ≤ most ∧ x.b = t)
theorem leadsB_iff {rs : List Arc} {most s t : Int} : leadsB rs most s t = true ↔ ∃ x ∈ rs, ReachR rs (upTo most) s x.a ∧ x.kind ≤ most ∧ x.b = t := by classical unfold leadsB; exact ⟨fun h => of_decide_eq_true h, fun h => decide_eq_true h⟩
open Classical in
noncomputable def circ2B (rs : List Arc) (kind most : Int) : Bool := decide (∃ x ∈ rs, x.kind = kind ∧ leadsB rs most x.b x.a = true)
theorem circ2B_iff {rs : List Arc} {kind most : Int} : circ2B rs kind most = true ↔ ∃ x ∈ rs, x.kind = kind ∧ leadsB rs most x.b x.a = true := by classical unfold circ2B; exact ⟨fun h => of_decide_eq_true h, fun h => decide_eq_true h⟩
theorem reach_want {rs : List Arc} {w w' : Int → Bool} (h : ∀ x ∈ rs, w x.kind = w' x.kind) {s y : Int} (hr : ReachR rs w s y) : ReachR rs w' s y := by
  induction hr with
  | refl => exact .refl
  | step _ hx hk ih => exact .step ih hx (by rw [← h _ hx]; exact hk)
/-- The two sayings of a circle are one. -/
theorem circ_same {rs : List Arc} (hne : ∀ x ∈ rs, x.a ≠ x.b) {kind most : Int} {w : Int → Bool} (h : ∀ x ∈ rs, w x.kind = upTo most x.kind) : circ2B rs kind most = circB rs kind w := by
  rw [Bool.eq_iff_iff, circ2B_iff, circB_iff]
  constructor
  · rintro ⟨x, hx, hk, hl⟩
    obtain ⟨y, hy, hr, hyk, hyb⟩ := leadsB_iff.1 hl
    refine ⟨x, hx, hk, ?_⟩
    rw [← hyb]
    exact .step (reach_want (fun z hz => (h z hz).symm) hr) hy (by rw [h y hy]; exact decide_eq_true hyk)
  · rintro ⟨x, hx, hk, hr⟩
    refine ⟨x, hx, hk, leadsB_iff.2 ?_⟩
    have hr' := reach_want (w' := upTo most) h hr
    generalize hz : x.a = z at hr'
    cases hr' with
    | refl => exact absurd hz (hne x hx)
    | @step y h1 hy hyk => exact ⟨y, hy, h1, of_decide_eq_true hyk, rfl⟩
/-- A circle that no other kind explains has an arc of the third kind. -/
theorem circ_all {rs : List Arc} (hkind : ∀ x ∈ rs, x.kind = 1 ∨ x.kind = 2 ∨ x.kind = 3) (h1 : circB rs 1 wW = false) (h2 : circB rs 2 wP = false) : circB rs 3 wA = circsB rs := by
  rw [Bool.eq_iff_iff, circB_iff, circsB_iff]
  constructor
  · rintro ⟨x, hx, _, hr⟩
    exact ⟨x, hx, hr⟩
  · rintro ⟨x, hx, hr⟩
    have tr : ∀ {w : Int → Bool} {a b c : Int}, ReachR rs w a b → ReachR rs w b c → ReachR rs w a c := fun {w a b c} h h' => by
      induction h' with
      | refl => exact h
      | step _ hx hk ih => exact .step ih hx hk
    -- along a way: all arcs are of kinds up to two, or one of the third kind lies on it
    have key : ∀ {w : Int → Bool} {s y : Int}, ReachR rs (fun _ => true) s y → ReachR rs w s y ∨ ∃ z ∈ rs, w z.kind = false ∧ ReachR rs (fun _ => true) s z.a ∧ ReachR rs (fun _ => true) z.b y := fun {w s y} h => by
      induction h with
      | refl => exact .inl .refl
      | @step z h1 hz _ ih =>
        rcases ih with h | ⟨v, hv, g1, g2, g3⟩
        · cases hw : w z.kind with
          | true => exact .inl (.step h hz hw)
          | false => exact .inr ⟨z, hz, hw, h1, .refl⟩
        · exact .inr ⟨v, hv, g1, g2, .step g3 hz rfl⟩
    have c3 : ∀ z ∈ rs, z.kind = 3 → ReachR rs (fun _ => true) z.b z.a → ∃ x ∈ rs, x.kind = 3 ∧ ReachR rs wA x.b x.a := fun z hz hk hr => ⟨z, hz, hk, hr⟩
    have c2 : ∀ z ∈ rs, z.kind = 2 → ReachR rs (fun _ => true) z.b z.a → ∃ x ∈ rs, x.kind = 3 ∧ ReachR rs wA x.b x.a := fun z hz hk hr => by
      rcases key (w := wP) hr with h | ⟨v, hv, g1, g2, g3⟩
      · have := circB_iff.2 ⟨z, hz, hk, h⟩
        rw [h2] at this; cases this
      · refine c3 v hv ?_ ?_
        · unfold wP at g1; simpa using g1
        · exact (tr g3 (.step .refl hz rfl)) |> fun h => tr h g2
    rcases hkind x hx with hk | hk | hk
    · rcases key (w := wW) hr with h | ⟨v, hv, g1, g2, g3⟩
      · have := circB_iff.2 ⟨x, hx, hk, h⟩
        rw [h1] at this; cases this
      · have hv' : ReachR rs (fun _ => true) v.b v.a := tr (tr g3 (.step .refl hx rfl)) g2
        rcases hkind v hv with e | e | e
        · unfold wW at g1; rw [e] at g1; cases g1
        · exact c2 v hv e hv'
        · exact c3 v hv e hv'
    · exact c2 x hx hk hr
    · exact c3 x hx hk hr
section
variable {H H' H0 : Hp} {Q : Value → Hp → Prop} {g ga : Nat} {A : Option Addr} {n c : Nat} {l : List Ev}
theorem c58 (B : HisAt H g ga A n c l) (hok : OkTo l l.length) (hq : Q (.bool (abTo l l.length)) H) : HCalls Tryz.prog 58 [.pointer (some ⟨g, 0, none⟩)] H Q := by
  refine f58.ok _ _ ?_
  unfold f58
  have hA := B.evs
  obtain rfl := hA.len
  have hlt := hA.lt
  unfold abTo at hq
  rw [List.take_length] at hq
  refine ⟨_, _, _, B.cl0, scan hlt (fun i H' => H' = H ∧ (l.take i).any (fun x => badRead l x && !comB l x.frm) = false) ⟨rfl, by simp⟩ (fun i H3 next hi hI hnext => ?_) (fun H3 next hI => ?_)⟩
  · obtain ⟨rfl, hno⟩ := hI
    obtain ⟨e, he⟩ := get_of hi
    obtain ⟨htin, hfin⟩ := ev_nums hok he
    have ht : 1 ≤ e.txn ∧ e.txn ≤ 200 := by unfold inB at htin; simpa using htin
    have hf : 0 ≤ e.frm ∧ e.frm ≤ 200 := by
      rcases hfin with h | h
      · omega
      · unfold inB at h; simp at h; omega
    dsimp only
    refine cndT (decide_eq_true (by omega)) ⟨by omega, by omega, rd_ev hA he fun q o _ k1 k2 k3 k4 k5 => ⟨e.op, by simpa using k1, e.txn, by simpa using k2, e.item, by simpa using k3, e.frm, by simpa using k4, e.stmt, by simpa using k5, ?_⟩⟩
    refine jn_intro (fun J => ∀ b, b = (badRead l e && !comB l e.frm) → J b) (fun b hb => cndI (fun hbt => ?_) fun hbf => ⟨rfl, hnext H3 ⟨rfl, ?_⟩⟩) fun J hJ => cndI (fun h1 => ⟨_, _, _, B.cl1, by omega, by show e.txn < ((201 : Nat) : Int); omega, B.comF (by omega) ht.2 fun hcl => ⟨_, hcl, cndI (fun h2 => cndI (fun h3 => cndI (fun h4 => ⟨_, _, _, B.cl1, by omega, by show e.frm < ((201 : Nat) : Int); omega, B.comF (by omega) hf.2 fun hcl2 => ⟨_, hcl2, hJ _ ?_⟩⟩) fun h4 => hJ _ ?_) fun h3 => hJ _ ?_) fun h2 => hJ _ ?_⟩⟩) fun h1 => hJ _ ?_
    · rw [any_hit he (by rw [← hb, hbt])] at hq; exact hq
    · rw [any_take_succ he, hno, ← hb, hbf]; rfl
    · rw [comV_ge] at h2
      unfold badRead; rw [comV_lt, h1, h2, h3, h4]; rfl
    · unfold badRead; rw [h4]; simp
    · unfold badRead; rw [h3]; simp
    · rw [comV_ge] at h2
      unfold badRead; rw [h2]; simp
    · unfold badRead; rw [h1]; rfl
  · obtain ⟨rfl, hno⟩ := hI
    rw [List.take_length] at hno
    dsimp only
    rw [hno] at hq
    exact cndF (decide_eq_false (by omega)) hq
theorem c59 (B : HisAt H g ga A n c l) (hok : OkTo l l.length) (hq : Q (.bool (btTo l l.length)) H) : HCalls Tryz.prog 59 [.pointer (some ⟨g, 0, none⟩)] H Q := by
  refine f59.ok _ _ ?_
  unfold f59
  have hA := B.evs
  obtain rfl := hA.len
  have hlt := hA.lt
  refine ⟨_, _, _, B.cl0, scan hlt (fun i H' => H' = H ∧ btTo l i = false) ⟨rfl, rfl⟩ (fun i H3 next hi hI hnext => ?_) (fun H3 next hI => ?_)⟩
  · obtain ⟨rfl, hno⟩ := hI
    obtain ⟨e, he⟩ := get_of hi
    obtain ⟨htin, hfin⟩ := ev_nums hok he
    have ht : 1 ≤ e.txn ∧ e.txn ≤ 200 := by unfold inB at htin; simpa using htin
    have hbt : btAt l i = (badRead l e && decide (i < natOr (lastW l e.frm e.item))) := by unfold btAt; rw [he]
    dsimp only
    refine cndT (decide_eq_true (by omega)) ⟨by omega, by omega, rd_ev hA he fun q o _ k1 k2 k3 k4 k5 => ⟨e.op, by simpa using k1, e.txn, by simpa using k2, e.item, by simpa using k3, e.frm, by simpa using k4, e.stmt, by simpa using k5, ?_⟩⟩
    refine jn_intro (fun J => ∀ b, b = btAt l i → J b H3) (fun b hb => cndI (fun hbt2 => ?_) fun hbf => ⟨rfl, hnext H3 ⟨rfl, ?_⟩⟩) fun J hJ => cndI (fun h1 => ⟨_, _, _, B.cl1, by omega, by show e.txn < ((201 : Nat) : Int); omega, B.comF (by omega) ht.2 fun hcl => ⟨_, hcl, cndI (fun h2 => cndI (fun h3 => cndI (fun h4 => c90 B (by omega) ⟨_, rfl, hJ _ ?_⟩) fun h4 => hJ _ ?_) fun h3 => hJ _ ?_) fun h2 => hJ _ ?_⟩⟩) fun h1 => hJ _ ?_
    · have : btTo l l.length = true := by
        unfold btTo
        exact List.any_eq_true.2 ⟨i, List.mem_range.2 hi, by rw [← hb, hbt2]⟩
      rw [this] at hq; exact hq
    · rw [btTo_succ, hno, ← hb, hbf]; rfl
    · rw [comV_ge] at h2
      have o2 : e.op = 2 := by simpa using h1
      rw [hbt, from_read hok he o2]
      unfold badRead; rw [h1, h2, h3, h4]; rfl
    · rw [hbt]; unfold badRead; rw [h4]; simp
    · rw [hbt]; unfold badRead; rw [h3]; simp
    · rw [comV_ge] at h2
      rw [hbt]; unfold badRead; rw [h2]; simp
    · rw [hbt]; unfold badRead; rw [h1]; rfl
  · obtain ⟨rfl, hno⟩ := hI
    dsimp only
    rw [hno] at hq
    exact cndF (decide_eq_false (by omega)) hq
theorem c91 {rs : List Arc} {most s t : Int} (hA : SlAt arC H A n rs) (hs : rs.length ≤ 33000000) (hq : ∀ H', Ext H H' → Q (.bool (leadsB rs most s t)) H') : HCalls Tryz.prog 91 [.slice A n c, .int .i64 most, .int .i64 s, .int .i64 t] H Q := by
  refine f91.ok _ _ _ _ _ _ ?_
  unfold f91
  obtain rfl := hA.len
  have hlt := hA.lt
  intro g1 hg1
  have x2 : Ext H (upd g1 (Obj.cells [Value.int .i64 s].toArray 3 (0, 0)) H) := Ext.new hg1
  have R2 : Row H (upd g1 (Obj.cells [Value.int .i64 s].toArray 3 (0, 0)) H) (some ⟨g1, 0, none⟩) [s].length 1 1 ([s].flatMap inC) := ⟨rfl, by simp, .inr ⟨g1, [Value.int .i64 s], 3, rfl, upd_at, by simp, rfl, hg1⟩⟩
  generalize (upd g1 (Obj.cells [Value.int .i64 s].toArray 3 (0, 0)) H) = H2 at x2 R2 ⊢
  have hU : ∀ row : List Int, row.Nodup → (∀ v ∈ row, v = s ∨ v ∈ rs.map (·.b)) → row.length ≤ rs.length + 1 := fun row hn hm => by
    have := nodup_len (m := s :: rs.map (·.b)) hn fun v hv => by
      rcases hm v hv with rfl | h
      · exact List.mem_cons_self
      · exact List.mem_cons_of_mem _ h
    rw [List.length_cons, List.length_map] at this; exact this
  refine loop_to (rs.length + 1) (fun i st H' => ∃ A1 c1 row, st = (((A1, (row : List Int).length, c1), ((i : Int), ())), ()) ∧ Ext H H' ∧ Row H H' A1 row.length c1 1 (row.flatMap inC) ∧ row.Nodup ∧ s ∈ row ∧ (∀ v ∈ row, v = s ∨ v ∈ rs.map (·.b)) ∧ (∀ v ∈ row, ReachR rs (upTo most) s v) ∧ i ≤ row.length ∧ ∀ (j : Nat) (v : Int), j < i → row[j]? = some v → ∀ x ∈ rs, x.a = v → x.kind ≤ most → x.b ≠ t ∧ x.b ∈ row)
    ⟨_, 1, [s], rfl, x2, R2, by simp, by simp, fun v hv => .inl (by simpa using hv), fun v hv => by rw [List.mem_singleton.1 hv]; exact .refl, Nat.zero_le _, fun j v hj => by omega⟩ ?_
  rintro i st H4 next hi ⟨A1, c1, row, rfl, hx4, R4, hnd, hsr, hmem, hre, hil, hcl⟩ hnext
  dsimp only
  have hrl := hU row hnd hmem
  by_cases hlt2 : i < row.length
  rotate_left
  · have hie : i = row.length := by omega
    refine cndF (decide_eq_false (by omega)) ?_
    have hno : leadsB rs most s t = false := by
      rw [← Bool.not_eq_true, leadsB_iff]
      rintro ⟨x, hx, hr, hk, hb⟩
      have hall : ∀ v, ReachR rs (upTo most) s v → v ∈ row := fun v hv => by
        induction hv with
        | refl => exact hsr
        | @step y _ hy hyk ih =>
          obtain ⟨j, hj⟩ := List.getElem?_of_mem ih
          have hjl := (List.getElem?_eq_some_iff.1 hj).1
          exact (hcl j y.a (by omega) hj y hy rfl (of_decide_eq_true hyk)).2
      obtain ⟨j, hj⟩ := List.getElem?_of_mem (hall _ hr)
      have hjl := (List.getElem?_eq_some_iff.1 hj).1
      exact (hcl j x.a (by omega) hj x hx rfl hk).1 hb
    rw [hno] at hq
    exact hq H4 hx4
  obtain ⟨u, hu⟩ := get_of hlt2
  have ei : IntKind.i64.wrap ((i : Int) + 1) = ((i + 1 : Nat) : Int) := by rw [wrap_id (by omega) (by omega)]; rfl
  refine cndT (decide_eq_true (by omega)) (loop_to rs.length (fun k st H' => ∃ A1 c1 tl, st = (((A1, (row ++ (tl : List Int)).length, c1), ((k : Int), ())), ()) ∧ Ext H H' ∧ Row H H' A1 (row ++ tl).length c1 1 ((row ++ tl).flatMap inC) ∧ (row ++ tl).Nodup ∧ (∀ v ∈ row ++ tl, v = s ∨ v ∈ rs.map (·.b)) ∧ (∀ v ∈ row ++ tl, ReachR rs (upTo most) s v) ∧ ∀ (m : Nat) (x : Arc), m < k → rs[m]? = some x → x.a = u → x.kind ≤ most → x.b ≠ t ∧ x.b ∈ row ++ tl)
    ⟨A1, c1, [], by rw [List.append_nil]; rfl, hx4, by rw [List.append_nil]; exact R4, by rw [List.append_nil]; exact hnd, by rw [List.append_nil]; exact hmem, by rw [List.append_nil]; exact hre, fun m x hm => by omega⟩ ?_)
  rintro k st H7 next2 hk ⟨A6, c6, tl, rfl, hx7, R7, hnd7, hmem7, hre7, hcl7⟩ hnext2
  dsimp only
  have hrl7 := hU _ hnd7 hmem7
  have hu7 : (row ++ tl)[i]? = some u := by rw [List.getElem?_append_left hlt2]; exact hu
  by_cases hkl : k < rs.length
  rotate_left
  · obtain rfl : k = rs.length := by omega
    refine cndF (decide_eq_false (by omega)) ⟨rfl, hnext _ _ (by omega) ⟨A6, c6, row ++ tl, by rw [ei], hx7, R7, hnd7, List.mem_append_left _ hsr, hmem7, hre7, by rw [List.length_append]; omega, fun j v hj hv x hx hxa hxk => ?_⟩⟩
    by_cases e : j = i
    · subst e
      rw [hu7] at hv; cases hv
      obtain ⟨m, hm⟩ := List.getElem?_of_mem hx
      exact hcl7 m x (List.getElem?_eq_some_iff.1 hm).1 hm hxa hxk
    · rw [List.getElem?_append_left (by omega)] at hv
      have := hcl j v (by omega) hv x hx hxa hxk
      exact ⟨this.1, List.mem_append_left _ this.2⟩
  obtain ⟨x, hx⟩ := get_of hkl
  have hxm := List.mem_of_getElem? hx
  have ek : IntKind.i64.wrap ((k : Int) + 1) = ((k + 1 : Nat) : Int) := by rw [wrap_id (by omega) (by omega)]; rfl
  have S7 : SlAt inC H7 A6 (row ++ tl).length (row ++ tl) := ⟨rfl, R7.cells, by unfold huge; omega⟩
  refine cndT (decide_eq_true (by omega)) (jn_intro (fun J => ∀ A' c' tl' H', Ext H H' → Row H H' A' (row ++ tl').length c' 1 ((row ++ tl').flatMap inC) → (row ++ tl').Nodup → (∀ v ∈ row ++ tl', v = s ∨ v ∈ rs.map (·.b)) → (∀ v ∈ row ++ tl', ReachR rs (upTo most) s v) → (∀ v ∈ row ++ tl, v ∈ row ++ tl') → (x.a = u → x.kind ≤ most → x.b ≠ t ∧ x.b ∈ row ++ tl') → J A' (row ++ tl').length c' H') (fun A' c' tl' H' a1 a2 a3 a4 a5 a6 a7 => ⟨rfl, hnext2 _ _ hkl ⟨A', c', tl', by rw [ek], a1, a2, a3, a4, a5, fun m y hm hy hya hyk => ?_⟩⟩) fun J hJ => ⟨by omega, by omega, rd_ar (hA.ext hx7) hx fun q o _ k1 k2 k3 k4 => ⟨x.a, by simpa using k1, x.b, by simpa using k2, x.kind, by simpa using k3, x.item, by simpa using k4, ?_⟩⟩)
  · by_cases e : m = k
    · subst e; rw [hx] at hy; cases hy; exact a7 hya hyk
    · have := hcl7 m y (by omega) hy hya hyk
      exact ⟨this.1, a6 _ this.2⟩
  have hil7 : i < (row ++ tl).length := by rw [List.length_append]; omega
  refine jn_intro (fun J17 => ∀ b, b = !((x.a == u) && decide (x.kind ≤ most)) → J17 b) (fun b hb => cndI (fun hbt => ?_) fun hbf => ?_) fun J17 h17 => ⟨by omega, by omega, rd_in S7 hu7 fun q o _ k1 => ⟨u, by simpa using k1, cndI (fun h1 => h17 _ ?_) fun h1 => h17 _ ?_⟩⟩
  · refine hJ A6 c6 tl H7 hx7 R7 hnd7 hmem7 hre7 (fun v hv => hv) fun h1 h2 => ?_
    rw [hbt, h1, decide_eq_true h2] at hb
    simp at hb
  · rw [hbf] at hb
    have hb := not_f hb
    rw [Bool.and_eq_true, beq_iff_eq, decide_eq_true_eq] at hb
    have hru : ReachR rs (upTo most) s u := hre7 u (List.mem_of_getElem? hu7)
    refine cndI (fun ht => ?_) fun ht => c57 S7 ⟨_, rfl, cndI (fun hn => ?_) fun hn => ?_⟩
    · have ht : x.b = t := by simpa using ht
      have : leadsB rs most s t = true := leadsB_iff.2 ⟨x, hxm, by rw [hb.1]; exact hru, hb.2, ht⟩
      rw [this] at hq
      exact hq H7 hx7
    · have ht : x.b ≠ t := by simpa using ht
      have hni : x.b ∉ row ++ tl := fun h => by
        have : ((row ++ tl).any fun y => y == x.b) = true := List.any_eq_true.2 ⟨_, h, by simp⟩
        rw [this] at hn; cases hn
      intro g21 hg21
      have hrx : ReachR rs (upTo most) s x.b := .step (by rw [hb.1]; exact hru) hxm (decide_eq_true hb.2)
      refine Row.push1 (w := x.b) (f := inC) (k := 1) (ty := 3) (fun _ => rfl) (fun x v hv => by obtain rfl := List.mem_singleton.1 hv; rfl) (by omega) R7 hx7 (by unfold big; omega) hg21 fun A2 c2 H24 R2 x24 _ _ => ?_
      have ea : row ++ tl ++ [x.b] = row ++ (tl ++ [x.b]) := List.append_assoc _ _ _
      rw [ea] at R2 ⊢
      refine hJ A2 c2 (tl ++ [x.b]) H24 x24 R2 ?_ (fun v hv => ?_) (fun v hv => ?_) (fun v hv => ?_) fun _ _ => ⟨ht, ?_⟩
      · rw [← ea, List.nodup_append]
        exact ⟨hnd7, by simp, fun a ha b hb2 => by rw [List.mem_singleton.1 hb2]; exact fun e => hni (e ▸ ha)⟩
      · rw [← ea] at hv
        rcases List.mem_append.1 hv with hv | hv
        · exact hmem7 v hv
        · rw [List.mem_singleton.1 hv]; exact .inr (List.mem_map_of_mem hxm)
      · rw [← ea] at hv
        rcases List.mem_append.1 hv with hv | hv
        · exact hre7 v hv
        · rw [List.mem_singleton.1 hv]; exact hrx
      · rw [← ea]; exact List.mem_append_left _ hv
      · rw [← ea]; simp
    · have hn : ((row ++ tl).any fun y => y == x.b) = true := not_f (by rw [← hn])
      have ht : x.b ≠ t := by simpa using ht
      obtain ⟨y, hy, hyb⟩ := List.any_eq_true.1 hn
      have hyb : y = x.b := by simpa using hyb
      exact hJ A6 c6 tl H7 hx7 R7 hnd7 hmem7 hre7 (fun v hv => hv) fun _ _ => ⟨ht, by rw [← hyb]; exact hy⟩
  · have : (x.a == u) = false := by unfold bne at h1; cases h : x.a == u <;> rw [h] at h1 <;> simp_all
    rw [this]; rfl
  · have : (x.a == u) = true := by unfold bne at h1; cases h : x.a == u <;> rw [h] at h1 <;> simp_all
    rw [this, Bool.true_and, ← decide_not]
    exact decide_eq_decide.2 (by omega)
theorem c60 {rs : List Arc} {kind most : Int} (hA : SlAt arC H A n rs) (hs : rs.length ≤ 33000000) (hq : ∀ H', Ext H H' → Q (.bool (circ2B rs kind most)) H') : HCalls Tryz.prog 60 [.slice A n c, .int .i64 kind, .int .i64 most] H Q := by
  refine f60.ok _ _ _ _ _ ?_
  unfold f60
  obtain rfl := hA.len
  have hlt := hA.lt
  refine scan hlt (fun i H' => Ext H H' ∧ ∀ (j : Nat) (x : Arc), j < i → rs[j]? = some x → ¬ (x.kind = kind ∧ leadsB rs most x.b x.a = true)) ⟨Ext.refl _, fun j x hj => by omega⟩ (fun i H2 next hi hI hnext => ?_) (fun H2 next hI => ?_)
  · obtain ⟨hx2, hno⟩ := hI
    obtain ⟨x, hx⟩ := get_of hi
    dsimp only
    refine cndT (decide_eq_true (by omega)) ⟨by omega, by omega, rd_ar (hA.ext hx2) hx fun q o _ k1 k2 k3 k4 => ⟨x.a, by simpa using k1, x.b, by simpa using k2, x.kind, by simpa using k3, x.item, by simpa using k4, ?_⟩⟩
    refine jn_intro (fun J => ∀ b H', Ext H H' → b = ((x.kind == kind) && leadsB rs most x.b x.a) → J b H') (fun b H13 x13 hb => cndI (fun hbt => ?_) fun hbf => ⟨rfl, hnext H13 ⟨x13, fun j y hj hy => ?_⟩⟩) fun J hJ => cndI (fun h1 => c91 (hA.ext hx2) hs fun H10 x10 => ⟨_, rfl, hJ _ H10 (hx2.trans x10) (by rw [h1]; rfl)⟩) fun h1 => hJ _ H2 hx2 (by rw [h1]; rfl)
    · rw [hbt] at hb
      have hb := hb.symm
      rw [Bool.and_eq_true, beq_iff_eq] at hb
      rw [circ2B_iff.2 ⟨x, List.mem_of_getElem? hx, hb⟩] at hq
      exact hq H13 x13
    · by_cases e : j = i
      · subst e
        rw [hx] at hy; cases hy
        rintro ⟨a1, a2⟩
        rw [hbf, a1, a2] at hb
        simp at hb
      · exact hno j y (by omega) hy
  · obtain ⟨hx2, hno⟩ := hI
    dsimp only
    have : circ2B rs kind most = false := by
      rw [← Bool.not_eq_true, circ2B_iff]
      rintro ⟨x, hx, h⟩
      obtain ⟨j, hj⟩ := List.getElem?_of_mem hx
      exact hno j x (List.getElem?_eq_some_iff.1 hj).1 hj h
    rw [this] at hq
    exact cndF (decide_eq_false (by omega)) (hq H2 hx2)
/-- A fault is noted. -/
theorem note_to {A : Option Addr} {c : Nat} {out : List ByteArray} {b : Bool} {s : ByteArray} {J : Option Addr → Nat → Nat → Hp → Prop} (R : Row H0 H A out.length c 1 (out.flatMap stC)) (hx : Ext H0 H) (hs : out.length < 100)
    (hJ : ∀ A' c' H', Ext H0 H' → Row H0 H' A' (out ++ noteL b s).length c' 1 ((out ++ noteL b s).flatMap stC) → (out ++ noteL b s).length ≤ out.length + 1 → J A' (out ++ noteL b s).length c' H') :
    cnd b (newF H 9 [.string s] fun g H' => appendF H' 9 1 16 A out.length c (some ⟨g, 0, none⟩) 1 fun A' n' c' H'' => J A' n' c' H'') (J A out.length c H) := by
  cases b with
  | true =>
    intro g hg
    exact Row.push1 (w := s) (f := stC) (k := 1) (fun _ => rfl) (fun x v hv => by obtain rfl := List.mem_singleton.1 hv; rfl) (by omega) R hx (by unfold big; omega) hg fun A2 c2 H2 R2 x2 _ _ => hJ A2 c2 H2 x2 R2 (by simp [noteL])
  | false =>
    have h : out ++ noteL false s = out := by unfold noteL; simp
    rw [h] at hJ
    exact hJ A c H hx R (by omega)
theorem c22 (hA : SlAt evC H A n l) (hc : n ≤ c) (hq : FaultsQ H Q l) : HCalls Tryz.prog 22 [.slice A n c] H Q := by
  refine f22.ok _ _ _ ?_
  unfold f22
  obtain ⟨q1, q2⟩ := hq
  refine c21 hA fun H2 x2 => ⟨_, rfl, ?_⟩
  cases hv : validM l with
  | false => exact cndT rfl (q1 hv H2 x2)
  | true =>
  obtain ⟨hok, hlen⟩ := valid_ok hv
  refine cndF rfl (c54 (hA.ext x2) hc hok fun g ga H5 x5 B => ⟨_, rfl, c55a B hok hlen fun A9 c9 rs H8 x8 ha hrl S9 hc9 => ⟨_, _, _, rfl, ?_⟩⟩)
  have B8 := B.ext x8
  have hne : ∀ x ∈ rs, x.a ≠ x.b := fun x hx => (arc_iff.1 ((ha.2 x).1 hx)).1
  have hkind : ∀ x ∈ rs, x.kind = 1 ∨ x.kind = 2 ∨ x.kind = 3 := fun x hx => by
    obtain ⟨_, _, _, h | h | h⟩ := arc_iff.1 ((ha.2 x).1 hx)
    · exact .inl h.1
    · exact .inr (.inl h.1)
    · exact .inr (.inr h.1)
  have e1 : circ2B rs 1 1 = circB rs 1 wW := circ_same hne fun x hx => by rcases hkind x hx with h | h | h <;> rw [h] <;> rfl
  have e2 : circ2B rs 2 2 = circB rs 2 wP := circ_same hne fun x hx => by rcases hkind x hx with h | h | h <;> rw [h] <;> rfl
  have e3 : circ2B rs 3 2 = circB rs 3 wP := circ_same hne fun x hx => by rcases hkind x hx with h | h | h <;> rw [h] <;> rfl
  have e4 : circ2B rs 3 3 = circB rs 3 wA := circ_same hne fun x hx => by rcases hkind x hx with h | h | h <;> rw [h] <;> rfl
  have hx8 := (x2.trans x5).trans x8
  have R0 : Row H8 H8 none ([] : List ByteArray).length 0 1 (([] : List ByteArray).flatMap stC) := Row.nil
  refine jn_intro (fun J21 => ∀ A' c' H', Ext H8 H' → Row H8 H' A' ([] ++ noteL (abTo l l.length) sAb).length c' 1 (([] ++ noteL (abTo l l.length) sAb).flatMap stC) → ([] ++ noteL (abTo l l.length) sAb).length ≤ 1 → J21 A' ([] ++ noteL (abTo l l.length) sAb).length c' H') (fun A17 c17 H20 x20 R20 l20 => ?_) fun J21 h21 => c58 B8 hok ⟨_, rfl, note_to (b := abTo l l.length) (s := sAb) (out := []) (J := J21) R0 (Ext.refl _) (by decide) fun A' c' H' hx' R' hl' => h21 A' c' H' hx' R' hl'⟩
  generalize ho1 : [] ++ noteL (abTo l l.length) sAb = o1 at R20 l20
  refine jn_intro (fun J33 => ∀ A' c' H', Ext H8 H' → Row H8 H' A' (o1 ++ noteL (btTo l l.length) sBt).length c' 1 ((o1 ++ noteL (btTo l l.length) sBt).flatMap stC) → (o1 ++ noteL (btTo l l.length) sBt).length ≤ 2 → J33 A' (o1 ++ noteL (btTo l l.length) sBt).length c' H') (fun A29 c29 H32 x32 R32 l32 => ?_) fun J33 h33 => c59 (B8.ext x20) hok ⟨_, rfl, note_to (b := btTo l l.length) (s := sBt) (out := o1) (J := J33) R20 x20 (by omega) fun A' c' H' hx' R' hl' => h33 A' c' H' hx' R' (by omega)⟩
  generalize ho2 : o1 ++ noteL (btTo l l.length) sBt = o2 at R32 l32
  have grow : ∀ {A' : Option Addr} {c' : Nat} {o : List ByteArray} {X Y : Hp}, Row H8 X A' o.length c' 1 (o.flatMap stC) → Ext X Y → Row H8 Y A' o.length c' 1 (o.flatMap stC) := fun R hxy => R.keep fun q hq' => ext_at hxy (R.lt hq').1
  refine jn_intro (fun J45 => ∀ A' c' H', Ext H8 H' → Row H8 H' A' (o2 ++ noteL (circB rs 1 wW) sWw).length c' 1 ((o2 ++ noteL (circB rs 1 wW) sWw).flatMap stC) → (o2 ++ noteL (circB rs 1 wW) sWw).length ≤ 3 → J45 A' (o2 ++ noteL (circB rs 1 wW) sWw).length c' H') (fun A41 c41 H44 x44 R44 l44 => ?_) fun J45 h45 => c60 (S9.ext x32) hrl fun H35 x35 => ⟨_, rfl, by rw [e1]; exact note_to (b := circB rs 1 wW) (s := sWw) (out := o2) (J := J45) (grow R32 x35) (x32.trans x35) (by omega) fun A' c' H' hx' R' hl' => h45 A' c' H' hx' R' (by omega)⟩
  generalize ho3 : o2 ++ noteL (circB rs 1 wW) sWw = o3 at R44 l44
  refine jn_intro (fun J57 => ∀ A' c' H', Ext H8 H' → Row H8 H' A' (o3 ++ noteL (circB rs 2 wP) sWr).length c' 1 ((o3 ++ noteL (circB rs 2 wP) sWr).flatMap stC) → (o3 ++ noteL (circB rs 2 wP) sWr).length ≤ 4 → J57 A' (o3 ++ noteL (circB rs 2 wP) sWr).length c' H') (fun A53 c53 H56 x56 R56 l56 => ?_) fun J57 h57 => c60 (S9.ext x44) hrl fun H47 x47 => ⟨_, rfl, by rw [e2]; exact note_to (b := circB rs 2 wP) (s := sWr) (out := o3) (J := J57) (grow R44 x47) (x44.trans x47) (by omega) fun A' c' H' hx' R' hl' => h57 A' c' H' hx' R' (by omega)⟩
  generalize ho4 : o3 ++ noteL (circB rs 2 wP) sWr = o4 at R56 l56
  refine jn_intro (fun J69 => ∀ A' c' H', Ext H8 H' → Row H8 H' A' (o4 ++ noteL (circB rs 3 wP) sRw).length c' 1 ((o4 ++ noteL (circB rs 3 wP) sRw).flatMap stC) → (o4 ++ noteL (circB rs 3 wP) sRw).length ≤ 5 → J69 A' (o4 ++ noteL (circB rs 3 wP) sRw).length c' H') (fun A65 c65 H68 x68 R68 l68 => ?_) fun J69 h69 => c60 (S9.ext x56) hrl fun H59 x59 => ⟨_, rfl, by rw [e3]; exact note_to (b := circB rs 3 wP) (s := sRw) (out := o4) (J := J69) (grow R56 x59) (x56.trans x59) (by omega) fun A' c' H' hx' R' hl' => h69 A' c' H' hx' R' (by omega)⟩
  generalize ho5 : o4 ++ noteL (circB rs 3 wP) sRw = o5 at R68 l68
  have hfin : faultsF l rs = o5 ++ noteL (!circB rs 1 wW && (!circB rs 2 wP && (!circB rs 3 wP && circsB rs))) sRs := by
    unfold faultsF
    rw [← ho5, ← ho4, ← ho3, ← ho2, ← ho1]; rfl
  have hlen5 : decide (((o5.length : Nat) : Int) = ((o2.length : Nat) : Int)) = (!circB rs 1 wW && (!circB rs 2 wP && !circB rs 3 wP)) := by
    rw [← ho5, ← ho4, ← ho3]
    unfold noteL
    cases circB rs 1 wW <;> cases circB rs 2 wP <;> cases circB rs 3 wP <;> simp <;> omega
  refine jn_intro (fun J84 => ∀ A' c' H', Ext H8 H' → Row H8 H' A' (faultsF l rs).length c' 1 ((faultsF l rs).flatMap stC) → (faultsF l rs).length ≤ 6 → J84 A' (faultsF l rs).length c' H') (fun A80 c80 H83 x83 R83 l83 => q2 hv rs A80 c80 H83 ha (hx8.trans x83) ⟨rfl, R83.cells, by unfold huge; omega⟩ R83.2.1) fun J84 h84 => ?_
  rw [hfin] at h84
  refine jn_intro (fun J75 => ∀ b H', Ext H68 H' → b = (!circB rs 1 wW && (!circB rs 2 wP && (!circB rs 3 wP && circsB rs))) → J75 b H') (fun b H74 x74 hb => ?_) fun J75 h75 => cndI (fun h => c60 (S9.ext x68) hrl fun H71 x71 => ⟨_, rfl, h75 _ H71 x71 ?_⟩) fun h => h75 _ H68 (Ext.refl _) ?_
  · rw [hb]
    exact note_to (s := sRs) (out := o5) (J := J84) (grow R68 x74) (x68.trans x74) (by omega) fun A' c' H' hx' R' hl' => h84 A' c' H' hx' R' (by omega)
  · have h : decide (((o5.length : Nat) : Int) = ((o2.length : Nat) : Int)) = true := by
      rw [← h, Bool.eq_iff_iff, decide_eq_true_eq, beq_iff_eq]
    rw [hlen5] at h
    simp only [Bool.and_eq_true, Bool.not_eq_true'] at h
    rw [e4, circ_all hkind h.1 h.2.1, h.1, h.2.1, h.2.2]
    rfl
  · have h : decide (((o5.length : Nat) : Int) = ((o2.length : Nat) : Int)) = false := by
      rw [← h, Bool.eq_iff_iff, decide_eq_true_eq, beq_iff_eq]
    rw [hlen5] at h
    revert h
    cases circB rs 1 wW <;> cases circB rs 2 wP <;> cases circB rs 3 wP <;> simp
end
end Go.Proofs.YtibhpoikhkokiaaGreat.Hw

/- The document's shortest circles, plain: the search by levels finds what the way back finds. -/
set_option linter.unusedVariables false
set_option linter.unusedSimpArgs false
set_option linter.unusedSectionVars false
namespace Go.Proofs.YtibhpoikhkokiaaGreat.Hw
open Go Go.Proofs
/-- So many steps lead from one back to the start, over greater ones. -/
def DP (E : Int → List Int) (s : Int) : Nat → Int → Prop
  | 0, u => u = s
  | n + 1, t => s < t ∧ ∃ u ∈ E t, DP E s n u
def IsD (E : Int → List Int) (s : Int) (n : Nat) (u : Int) : Prop := DP E s n u ∧ ∀ k, k < n → ¬ DP E s k u
noncomputable def dOf (E : Int → List Int) (s : Int) (u : Int) : Option Nat := @dite _ (∃ n, IsD E s n u) (Classical.propDecidable _) (fun h => some (Classical.choose h)) (fun _ => none)
theorem isD_uniq {E : Int → List Int} {s u : Int} {m n : Nat} (h : IsD E s m u) (h' : IsD E s n u) : m = n := by
  refine Nat.le_antisymm ?_ ?_
  · exact Nat.le_of_not_lt fun hlt => h.2 n hlt h'.1
  · exact Nat.le_of_not_lt fun hlt => h'.2 m hlt h.1
theorem dOf_some {E : Int → List Int} {s u : Int} {n : Nat} : dOf E s u = some n ↔ IsD E s n u := by
  unfold dOf
  by_cases h : ∃ n, IsD E s n u
  · rw [dif_pos h]
    constructor
    · intro e; cases e; exact Classical.choose_spec h
    · intro h'; exact congrArg some (isD_uniq (Classical.choose_spec h) h')
  · rw [dif_neg h]
    constructor
    · intro e; cases e
    · intro h'; exact absurd ⟨n, h'⟩ h
theorem dp_min {E : Int → List Int} {s u : Int} : ∀ {n : Nat}, DP E s n u → ∃ k, k ≤ n ∧ IsD E s k u := by
  intro n
  induction n using Nat.strongRecOn with
  | ind n ih =>
    intro h
    by_cases hc : ∃ k, k < n ∧ DP E s k u
    · obtain ⟨k, hk, hd⟩ := hc
      obtain ⟨j, hj, hi⟩ := ih k hk hd
      exact ⟨j, by omega, hi⟩
    · exact ⟨n, Nat.le_refl _, h, fun k hk hd => hc ⟨k, hk, hd⟩⟩
theorem dp_ge {E : Int → List Int} {s u : Int} {n : Nat} (h : DP E s n u) : s ≤ u := by
  cases n with
  | zero => have : u = s := h; omega
  | succ n => have := h.1; omega
theorem isD_zero {E : Int → List Int} {s : Int} : IsD E s 0 s := ⟨rfl, fun k hk => by omega⟩
theorem isD_step {E : Int → List Int} {s u : Int} {n : Nat} (h : IsD E s (n + 1) u) : ∃ v ∈ E u, IsD E s n v := by
  obtain ⟨⟨hu, v, hv, hd⟩, hmin⟩ := h
  refine ⟨v, hv, hd, fun k hk hk' => hmin (k + 1) (by omega) ⟨hu, v, hv, hk'⟩⟩
/-- The next one of the way: of the nearest ones the first. -/
noncomputable def pickStep (E : Int → List Int) (s : Int) (acc : Option Int) (u : Int) : Option Int := match dOf E s u with
  | none => acc
  | some d => match acc with
    | none => some u
    | some b => if d < (dOf E s b).getD 0 then some u else some b
noncomputable def pickM (E : Int → List Int) (s : Int) (l : List Int) : Option Int := l.foldl (pickStep E s) none
theorem pickM_succ {E : Int → List Int} {s x : Int} {l : List Int} {i : Nat} (h : l[i]? = some x) : pickM E s (l.take (i + 1)) = pickStep E s (pickM E s (l.take i)) x := by
  unfold pickM
  rw [List.take_add_one, h, List.foldl_append]; rfl
theorem pick_spec {E : Int → List Int} {s : Int} {l : List Int} : ∀ i, i ≤ l.length → (∀ b, pickM E s (l.take i) = some b → b ∈ l ∧ ∃ d, dOf E s b = some d ∧ ∀ u ∈ l.take i, ∀ d', dOf E s u = some d' → d ≤ d') ∧ (pickM E s (l.take i) = none → ∀ u ∈ l.take i, dOf E s u = none)
  | 0, _ => ⟨fun b h => (by simp [pickM] at h), fun _ u h => (by simp at h)⟩
  | i + 1, hi => by
    obtain ⟨h1, h2⟩ := pick_spec (E := E) (s := s) (l := l) i (by omega)
    obtain ⟨x, hx⟩ := get_of (l := l) (i := i) (by omega)
    have hmem : x ∈ l := List.mem_of_getElem? hx
    have ht : ∀ u, u ∈ l.take (i + 1) ↔ u ∈ l.take i ∨ u = x := fun u => by rw [List.take_add_one, hx]; simp
    rw [pickM_succ hx]
    unfold pickStep
    cases hd : dOf E s x with
    | none =>
      simp only
      refine ⟨fun b hb => ?_, fun hb u hu => ?_⟩
      · obtain ⟨g1, d, g2, g3⟩ := h1 b hb
        refine ⟨g1, d, g2, fun u hu d' hd' => ?_⟩
        rcases (ht u).1 hu with hu | rfl
        · exact g3 u hu d' hd'
        · rw [hd] at hd'; cases hd'
      · rcases (ht u).1 hu with hu | rfl
        · exact h2 hb u hu
        · exact hd
    | some d =>
      simp only
      cases hp : pickM E s (l.take i) with
      | none =>
        simp only
        refine ⟨fun b hb => ?_, fun hb => (by cases hb)⟩
        cases hb
        refine ⟨hmem, d, hd, fun u hu d' hd' => ?_⟩
        rcases (ht u).1 hu with hu | rfl
        · rw [h2 hp u hu] at hd'; cases hd'
        · rw [hd] at hd'; cases hd'; exact Nat.le_refl _
      | some b0 =>
        obtain ⟨g1, d0, g2, g3⟩ := h1 b0 hp
        simp only [g2, Option.getD_some]
        by_cases hlt : d < d0
        · rw [if_pos hlt]
          refine ⟨fun b hb => ?_, fun hb => (by cases hb)⟩
          cases hb
          refine ⟨hmem, d, hd, fun u hu d' hd' => ?_⟩
          rcases (ht u).1 hu with hu | rfl
          · have := g3 u hu d' hd'; omega
          · rw [hd] at hd'; cases hd'; exact Nat.le_refl _
        · rw [if_neg hlt]
          refine ⟨fun b hb => ?_, fun hb => (by cases hb)⟩
          cases hb
          refine ⟨g1, d0, g2, fun u hu d' hd' => ?_⟩
          rcases (ht u).1 hu with hu | rfl
          · exact g3 u hu d' hd'
          · rw [hd] at hd'; cases hd'; omega
/-- The way on from one of them. -/
inductive WayD (E : Int → List Int) (s : Int) : Int → List Int → Option (List Int) → Prop
  | stop {a : Int} {out : List Int} (h : pickM E s (E a) = none) : WayD E s a out none
  | done {a : Int} {out : List Int} (h : pickM E s (E a) = some s) : WayD E s a out (some out)
  | step {a b : Int} {out : List Int} {r : Option (List Int)} (h : pickM E s (E a) = some b) (hb : b ≠ s) (hr : WayD E s b (out ++ [b]) r) : WayD E s a out r
def lastD (r : List Int) : Int := r.getLast?.getD 0
theorem lastD_snoc {r : List Int} {m : Int} : lastD (r ++ [m]) = m := by unfold lastD; simp
abbrev LvS := List (List Int) × List Int
def stepP (s : Int) (r : List Int) (acc : LvS) (m : Int) : LvS := if decide (m > s) && !(acc.2.any (· == m)) then (acc.1 ++ [r ++ [m]], acc.2 ++ [m]) else acc
def stepR (E : Int → List Int) (s : Int) (acc : LvS) (r : List Int) : LvS := (E (lastD r)).foldl (stepP s r) acc
def stepL (E : Int → List Int) (s : Int) (rows : List (List Int)) (seen : List Int) : LvS := rows.foldl (stepR E s) ([], seen)
def foundR (E : Int → List Int) (s : Int) (rows : List (List Int)) : Option (List Int) := rows.find? fun r => (E (lastD r)).any (· == s)
def circR (E : Int → List Int) (s : Int) : Nat → List (List Int) → List Int → Option (List Int)
  | 0, _, _ => none
  | k + 1, rows, seen => if rows.isEmpty then none else match foundR E s rows with
    | some r => some r
    | none => circR E s k (stepL E s rows seen).1 (stepL E s rows seen).2
section
variable {E : Int → List Int} {s : Int}
theorem stepP_grow {r : List Int} : ∀ {l : List Int} {acc : LvS}, ∃ T, (l.foldl (stepP s r) acc).1 = acc.1 ++ T
  | [], acc => ⟨[], by simp⟩
  | m :: l, acc => by
    obtain ⟨T, hT⟩ := stepP_grow (r := r) (l := l) (acc := stepP s r acc m)
    rw [List.foldl_cons, hT]
    unfold stepP
    split
    · exact ⟨[r ++ [m]] ++ T, by simp⟩
    · exact ⟨T, rfl⟩
theorem stepR_grow : ∀ {rows : List (List Int)} {acc : LvS}, ∃ T, (rows.foldl (stepR E s) acc).1 = acc.1 ++ T
  | [], acc => ⟨[], by simp⟩
  | r :: rows, acc => by
    obtain ⟨T, hT⟩ := stepR_grow (rows := rows) (acc := stepR E s acc r)
    obtain ⟨T', hT'⟩ := stepP_grow (s := s) (r := r) (l := E (lastD r)) (acc := acc)
    rw [List.foldl_cons, hT]
    unfold stepR
    rw [hT']
    exact ⟨T' ++ T, by simp⟩
/-- What a fold over rows keeps. -/
theorem stepP_all {P : List Int → Prop} {q : Int → Prop} {r : List Int} : ∀ {l : List Int} {acc : LvS}, (∀ m ∈ l, s < m → P (r ++ [m]) ∧ q m) → (∀ x ∈ acc.1, P x) → (∀ m ∈ acc.2, q m) → (∀ x ∈ (l.foldl (stepP s r) acc).1, P x) ∧ ∀ m ∈ (l.foldl (stepP s r) acc).2, q m
  | [], acc, _, h1, h2 => ⟨h1, h2⟩
  | m :: l, acc, h, h1, h2 => by
    rw [List.foldl_cons]
    refine stepP_all (fun x hx => h x (List.mem_cons_of_mem _ hx)) ?_ ?_
    · intro x hx
      unfold stepP at hx
      split at hx
      · rename_i hc
        simp only [Bool.and_eq_true, decide_eq_true_eq] at hc
        rcases List.mem_append.1 hx with hx | hx
        · exact h1 x hx
        · obtain rfl := List.mem_singleton.1 hx
          exact (h m List.mem_cons_self hc.1).1
      · exact h1 x hx
    · intro x hx
      unfold stepP at hx
      split at hx
      · rename_i hc
        simp only [Bool.and_eq_true, decide_eq_true_eq] at hc
        rcases List.mem_append.1 hx with hx | hx
        · exact h2 x hx
        · obtain rfl := List.mem_singleton.1 hx
          exact (h x List.mem_cons_self hc.1).2
      · exact h2 x hx
theorem stepR_all {P : List Int → Prop} {q : Int → Prop} : ∀ {rows : List (List Int)} {acc : LvS}, (∀ r ∈ rows, ∀ m ∈ E (lastD r), s < m → P (r ++ [m]) ∧ q m) → (∀ x ∈ acc.1, P x) → (∀ m ∈ acc.2, q m) → (∀ x ∈ (rows.foldl (stepR E s) acc).1, P x) ∧ ∀ m ∈ (rows.foldl (stepR E s) acc).2, q m
  | [], acc, _, h1, h2 => ⟨h1, h2⟩
  | r :: rows, acc, h, h1, h2 => by
    rw [List.foldl_cons]
    obtain ⟨g1, g2⟩ := stepP_all (P := P) (q := q) (s := s) (r := r) (l := E (lastD r)) (acc := acc) (h r List.mem_cons_self) h1 h2
    exact stepR_all (fun x hx => h x (List.mem_cons_of_mem _ hx)) g1 g2
def RowOk (E : Int → List Int) (s : Int) (n : Nat) (r : List Int) : Prop := r.length = n ∧ ((n = 1 ∧ r = [s]) ∨ (2 ≤ n ∧ s < lastD r ∧ ∀ k, DP E s k (lastD r) → ∃ u ∈ E s, DP E s (k + (n - 2)) u))
theorem rowOk_step {n : Nat} {r : List Int} {m : Int} (h : RowOk E s n r) (hm : m ∈ E (lastD r)) (hs : s < m) : RowOk E s (n + 1) (r ++ [m]) := by
  obtain ⟨h1, h2⟩ := h
  refine ⟨by rw [List.length_append, h1]; rfl, .inr ⟨?_, by rw [lastD_snoc]; exact hs, fun k hk => ?_⟩⟩
  · rcases h2 with ⟨h, _⟩ | ⟨h, _⟩ <;> omega
  · rw [lastD_snoc] at hk
    rcases h2 with ⟨e, rfl⟩ | ⟨h2, h3, h4⟩
    · subst e
      exact ⟨m, by simpa [lastD] using hm, by simpa using hk⟩
    · obtain ⟨u, hu, hd⟩ := h4 (k + 1) ⟨h3, m, hm, hk⟩
      exact ⟨u, hu, by rw [show k + (n + 1 - 2) = k + 1 + (n - 2) by omega]; exact hd⟩
/-- Who has been seen is no nearer than this. -/
def SeenOk (E : Int → List Int) (s : Int) (n : Nat) (seen : List Int) : Prop := ∀ m ∈ seen, ∀ k, DP E s k m → ∃ n' u, n' ≤ n ∧ 2 ≤ n' ∧ u ∈ E s ∧ DP E s (k + (n' - 2)) u
theorem seen_step {n : Nat} {r : List Int} {m : Int} (h : RowOk E s n r) (hm : m ∈ E (lastD r)) (hs : s < m) : ∀ k, DP E s k m → ∃ n' u, n' ≤ n + 1 ∧ 2 ≤ n' ∧ u ∈ E s ∧ DP E s (k + (n' - 2)) u := fun k hk => by
  have h2 := rowOk_step h hm hs
  obtain ⟨_, ⟨e, hr⟩ | ⟨g1, _, g3⟩⟩ := h2
  · have := congrArg List.length hr
    have h1 := h.1
    rw [List.length_append, h1] at this
    obtain ⟨_, ⟨e', rfl⟩ | ⟨g1, _⟩⟩ := h
    · simp at this; omega
    · omega
  · obtain ⟨u, hu, hd⟩ := g3 k (by rw [lastD_snoc]; exact hk)
    exact ⟨n + 1, u, Nat.le_refl _, g1, hu, hd⟩
theorem rows_step {n : Nat} {rows : List (List Int)} {seen : List Int} (h : ∀ r ∈ rows, RowOk E s n r) (hs : SeenOk E s n seen) : (∀ r ∈ (stepL E s rows seen).1, RowOk E s (n + 1) r) ∧ SeenOk E s (n + 1) (stepL E s rows seen).2 := by
  unfold stepL
  exact stepR_all (P := RowOk E s (n + 1)) (q := fun m => ∀ k, DP E s k m → ∃ n' u, n' ≤ n + 1 ∧ 2 ≤ n' ∧ u ∈ E s ∧ DP E s (k + (n' - 2)) u) (acc := ([], seen)) (fun r hr m hm hs => ⟨rowOk_step (h r hr) hm hs, seen_step (h r hr) hm hs⟩) (fun x hx => by cases hx) (fun m hm k hk => by
    obtain ⟨n', u, h1, h2, h3, h4⟩ := hs m hm k hk
    exact ⟨n', u, by omega, h2, h3, h4⟩)
theorem has_mem {l : List Int} {x : Int} : l.any (· == x) = true ↔ x ∈ l := by
  rw [List.any_eq_true]
  constructor
  · rintro ⟨y, hy, e⟩; rw [← (by simpa using e : y = x)]; exact hy
  · intro h; exact ⟨x, h, by simp⟩
theorem dOf_le {u : Int} {n : Nat} (h : DP E s n u) : ∃ d, dOf E s u = some d ∧ d ≤ n := by
  obtain ⟨k, hk, hi⟩ := dp_min h
  exact ⟨k, dOf_some.2 hi, hk⟩
/-- A row of which the start is reached at once bounds the nearest one. -/
theorem found_near {n : Nat} {r : List Int} (h : RowOk E s n r) (hm : s ∈ E (lastD r)) : ∃ u ∈ E s, ∃ d, dOf E s u = some d ∧ d + 1 ≤ n := by
  obtain ⟨h1, ⟨rfl, rfl⟩ | ⟨h2, h3, h4⟩⟩ := h
  · exact ⟨s, by simpa [lastD] using hm, 0, dOf_some.2 isD_zero, by omega⟩
  · obtain ⟨u, hu, hd⟩ := h4 1 ⟨h3, s, hm, rfl⟩
    obtain ⟨d, hd1, hd2⟩ := dOf_le hd
    exact ⟨u, hu, d, hd1, by omega⟩
theorem circ_none (hp : ∀ u ∈ E s, dOf E s u = none) : ∀ k n rows seen, (∀ r ∈ rows, RowOk E s n r) → SeenOk E s n seen → circR E s k rows seen = none
  | 0, _, _, _, _, _ => rfl
  | k + 1, n, rows, seen, h, hs => by
    have hf : foundR E s rows = none := by
      unfold foundR
      rw [List.find?_eq_none]
      intro r hr hc
      obtain ⟨u, hu, d, hd, _⟩ := found_near (h r hr) (has_mem.1 hc)
      rw [hp u hu] at hd; cases hd
    unfold circR
    rw [hf]
    simp only
    split
    · rfl
    · exact circ_none hp k (n + 1) _ _ (rows_step h hs).1 (rows_step h hs).2
theorem pick_first {l : List Int} : ∀ i, i ≤ l.length → ∀ b, pickM E s (l.take i) = some b → ∃ X Y, l.take i = X ++ b :: Y ∧ ∀ x ∈ X, dOf E s x ≠ dOf E s b
  | 0, _, b, h => by simp [pickM] at h
  | i + 1, hi, b, h => by
    obtain ⟨x, hx⟩ := get_of (l := l) (i := i) (by omega)
    obtain ⟨ps1, ps2⟩ := pick_spec (E := E) (s := s) (l := l) i (by omega)
    have ht : l.take (i + 1) = l.take i ++ [x] := by rw [List.take_add_one, hx]; rfl
    rw [pickM_succ hx] at h
    unfold pickStep at h
    have old : pickM E s (l.take i) = some b → ∃ X Y, l.take (i + 1) = X ++ b :: Y ∧ ∀ x ∈ X, dOf E s x ≠ dOf E s b := fun h => by
      obtain ⟨X, Y, h1, h2⟩ := pick_first i (by omega) b h
      exact ⟨X, Y ++ [x], by rw [ht, h1]; simp, h2⟩
    cases hd : dOf E s x with
    | none => rw [hd] at h; exact old h
    | some d =>
      rw [hd] at h
      simp only at h
      cases hp : pickM E s (l.take i) with
      | none =>
        rw [hp] at h
        simp only [Option.some.injEq] at h
        subst h
        exact ⟨l.take i, [], ht, fun y hy e => by rw [ps2 hp y hy, hd] at e; cases e⟩
      | some b0 =>
        rw [hp] at h
        obtain ⟨g1, d0, g2, g3⟩ := ps1 b0 hp
        simp only [g2, Option.getD_some] at h
        split at h
        · rename_i hlt
          cases h
          exact ⟨l.take i, [], ht, fun y hy e => by have := g3 y hy d (e.trans hd); omega⟩
        · cases h; exact old hp
structure GoodRow (E : Int → List Int) (s : Int) (d1 n : Nat) (r : List Int) : Prop where
  way : ∀ res, WayD E s (lastD r) r res → WayD E s s [s] res
  near : (n = 1 ∧ r = [s]) ∨ (2 ≤ n ∧ IsD E s (d1 + 2 - n) (lastD r))
  els : ∀ x ∈ r, x = s ∨ ∃ d, IsD E s d x ∧ d1 + 2 - n ≤ d
theorem circ_some {p1 : Int} {d1 : Nat} (hp : pickM E s (E s) = some p1) (hd1 : dOf E s p1 = some d1) (hmin : ∀ u ∈ E s, ∀ d', dOf E s u = some d' → d1 ≤ d') :
    ∀ (k n : Nat) (rows A B : List (List Int)) (seen : List Int) (r0 : List Int), 1 ≤ n → n ≤ d1 + 1 → d1 + 1 - n < k → (∀ r ∈ rows, RowOk E s n r) → SeenOk E s n seen → rows = A ++ r0 :: B → GoodRow E s d1 n r0 → (n = 1 → A = []) → (2 ≤ n → ∀ r ∈ A, ¬ DP E s (d1 + 2 - n) (lastD r)) → ∃ res, circR E s k rows seen = some res ∧ WayD E s s [s] (some res)
  | 0, n, _, _, _, _, _, _, _, h, _, _, _, _, _, _ => by omega
  | k + 1, n, rows, A, B, seen, r0, h1, h2, h3, hok, hsn, hrows, hgood, hA1, hA2 => by
    have hne : rows.isEmpty = false := by rw [hrows]; cases A <;> rfl
    have hok0 := hok r0 (by rw [hrows]; simp)
    by_cases hlast : n = d1 + 1
    · -- found
      have hpick : pickM E s (E (lastD r0)) = some s := by
        rcases hgood.near with ⟨e, rfl⟩ | ⟨h, hi⟩
        · have e0 : d1 = 0 := by omega
          have hl : lastD [s] = s := rfl
          rw [hl, hp]
          have := dOf_some.1 hd1
          rw [e0] at this
          exact congrArg some this.1
        · have e1 : d1 + 2 - n = 0 + 1 := by omega
          rw [e1] at hi
          obtain ⟨v, hv, hiv⟩ := isD_step hi
          have hvs : v = s := hiv.1
          subst hvs
          obtain ⟨ps1, ps2⟩ := pick_spec (E := E) (s := v) (l := E (lastD r0)) _ (Nat.le_refl _)
          rw [List.take_length] at ps1 ps2
          cases hpp : pickM E v (E (lastD r0)) with
          | none => have := ps2 hpp v hv; rw [dOf_some.2 isD_zero] at this; cases this
          | some b =>
            obtain ⟨_, d, hd, hm⟩ := ps1 b hpp
            have := hm v hv 0 (dOf_some.2 isD_zero)
            have e : d = 0 := by omega
            subst e
            exact congrArg some (dOf_some.1 hd).1
      have hsm : s ∈ E (lastD r0) := by
        obtain ⟨ps1, _⟩ := pick_spec (E := E) (s := s) (l := E (lastD r0)) _ (Nat.le_refl _)
        rw [List.take_length] at ps1
        exact (ps1 s hpick).1
      have hf : foundR E s rows = some r0 := by
        unfold foundR
        rw [hrows, List.find?_append, List.find?_cons, has_mem.2 hsm]
        have : A.find? (fun r => (E (lastD r)).any (· == s)) = none := by
          rw [List.find?_eq_none]
          intro r hr hc
          have hc := has_mem.1 hc
          by_cases e : n = 1
          · rw [hA1 e] at hr; cases hr
          · obtain ⟨_, ⟨e', _⟩ | ⟨g2, g3, _⟩⟩ := hok r (by rw [hrows]; exact List.mem_append_left _ hr)
            · exact e e'
            · refine hA2 g2 r hr ?_
              rw [show d1 + 2 - n = 0 + 1 by omega]
              exact ⟨g3, s, hc, rfl⟩
        rw [this]; rfl
      refine ⟨r0, ?_, hgood.way _ (.done hpick)⟩
      unfold circR
      rw [hf, hne]; rfl
    · -- a level on
      have hf : foundR E s rows = none := by
        unfold foundR
        rw [List.find?_eq_none]
        intro r hr hc
        obtain ⟨u, hu, d, hd, hle⟩ := found_near (hok r hr) (has_mem.1 hc)
        have := hmin u hu d hd
        omega
      have hstep : ∃ p, pickM E s (E (lastD r0)) = some p ∧ IsD E s (d1 + 1 - n) p := by
        rcases hgood.near with ⟨rfl, rfl⟩ | ⟨h, hi⟩
        · exact ⟨p1, hp, dOf_some.1 hd1⟩
        · have e1 : d1 + 2 - n = (d1 + 1 - n) + 1 := by omega
          rw [e1] at hi
          obtain ⟨v, hv, hiv⟩ := isD_step hi
          obtain ⟨ps1, ps2⟩ := pick_spec (E := E) (s := s) (l := E (lastD r0)) _ (Nat.le_refl _)
          rw [List.take_length] at ps1 ps2
          cases hpp : pickM E s (E (lastD r0)) with
          | none => have := ps2 hpp v hv; rw [dOf_some.2 hiv] at this; cases this
          | some b =>
            obtain ⟨hb, d, hd, hm⟩ := ps1 b hpp
            have hle := hm v hv _ (dOf_some.2 hiv)
            have hge : ¬ d < d1 + 1 - n := fun hlt => hi.2 (d + 1) (by omega) ⟨hi.1.1, b, hb, (dOf_some.1 hd).1⟩
            have e : d = d1 + 1 - n := by omega
            subst e
            exact ⟨b, rfl, dOf_some.1 hd⟩
      obtain ⟨p, hpick, hip⟩ := hstep
      obtain ⟨ps1, _⟩ := pick_spec (E := E) (s := s) (l := E (lastD r0)) _ (Nat.le_refl _)
      rw [List.take_length] at ps1
      obtain ⟨_, dp, hdp, hpm⟩ := ps1 p hpick
      obtain ⟨X, Y, hXY, hX⟩ := pick_first (E := E) (s := s) (l := E (lastD r0)) _ (Nat.le_refl _) p (by rw [List.take_length]; exact hpick)
      rw [List.take_length] at hXY
      have edp : dp = d1 + 1 - n := isD_uniq (dOf_some.1 hdp) hip
      have hps : p ≠ s := fun e => by
        rw [e] at hip
        have := isD_uniq hip isD_zero
        omega
      have hpgt : s < p := by have := dp_ge hip.1; omega
      have badA : ∀ r ∈ A, ∀ m ∈ E (lastD r), s < m → True ∧ ¬ DP E s (d1 + 1 - n) m := fun r hr m hm _ => ⟨trivial, fun hd => by
        by_cases e : n = 1
        · rw [hA1 e] at hr; cases hr
        · obtain ⟨_, ⟨e', _⟩ | ⟨g2, g3, _⟩⟩ := hok r (by rw [hrows]; exact List.mem_append_left _ hr)
          · exact e e'
          · refine hA2 g2 r hr ?_
            rw [show d1 + 2 - n = (d1 + 1 - n) + 1 by omega]
            exact ⟨g3, m, hm, hd⟩⟩
      have badX : ∀ m ∈ X, ¬ DP E s (d1 + 1 - n) m := fun m hm hd => by
        obtain ⟨d, hd1', hd2⟩ := dOf_le hd
        have h3 := hpm m (by rw [hXY]; exact List.mem_append_left _ hm) d hd1'
        have : d = dp := by omega
        subst this
        exact hX m hm (hd1'.trans hdp.symm)
      have badS : ∀ m ∈ seen, ¬ DP E s (d1 + 1 - n) m := fun m hm hd => by
        obtain ⟨n', u, g1, g2, g3, g4⟩ := hsn m hm _ hd
        obtain ⟨d, e1, e2⟩ := dOf_le g4
        have := hmin u g3 d e1
        omega
      have accA := stepR_all (E := E) (s := s) (P := fun r => ¬ DP E s (d1 + 1 - n) (lastD r)) (q := fun m => ¬ DP E s (d1 + 1 - n) m) (rows := A) (acc := ([], seen)) (fun r hr m hm hs => ⟨by rw [lastD_snoc]; exact (badA r hr m hm hs).2, (badA r hr m hm hs).2⟩) (fun x hx => by cases hx) badS
      have accX := stepP_all (s := s) (P := fun r => ¬ DP E s (d1 + 1 - n) (lastD r)) (q := fun m => ¬ DP E s (d1 + 1 - n) m) (r := r0) (l := X) (acc := A.foldl (stepR E s) ([], seen)) (fun m hm _ => ⟨by rw [lastD_snoc]; exact badX m hm, badX m hm⟩) accA.1 accA.2
      have hnew : stepP s r0 (X.foldl (stepP s r0) (A.foldl (stepR E s) ([], seen))) p = ((X.foldl (stepP s r0) (A.foldl (stepR E s) ([], seen))).1 ++ [r0 ++ [p]], (X.foldl (stepP s r0) (A.foldl (stepR E s) ([], seen))).2 ++ [p]) := by
        have hn2 : (X.foldl (stepP s r0) (A.foldl (stepR E s) ([], seen))).2.any (· == p) = false := by
          cases hh : (X.foldl (stepP s r0) (A.foldl (stepR E s) ([], seen))).2.any (· == p) with
          | false => rfl
          | true => exact absurd hip.1 (accX.2 p (has_mem.1 hh))
        unfold stepP
        rw [if_pos (by unfold stepP at hn2; rw [hn2, decide_eq_true hpgt]; rfl)]
      obtain ⟨T1, hT1⟩ := stepP_grow (s := s) (r := r0) (l := Y) (acc := stepP s r0 (X.foldl (stepP s r0) (A.foldl (stepR E s) ([], seen))) p)
      obtain ⟨T2, hT2⟩ := stepR_grow (E := E) (s := s) (rows := B) (acc := stepR E s (A.foldl (stepR E s) ([], seen)) r0)
      have hlev : (stepL E s rows seen).1 = (X.foldl (stepP s r0) (A.foldl (stepR E s) ([], seen))).1 ++ (r0 ++ [p]) :: (T1 ++ T2) := by
        unfold stepL
        rw [hrows, List.foldl_append, List.foldl_cons, hT2]
        have : (stepR E s (A.foldl (stepR E s) ([], seen)) r0).1 = (Y.foldl (stepP s r0) (stepP s r0 (X.foldl (stepP s r0) (A.foldl (stepR E s) ([], seen))) p)).1 := by
          unfold stepR
          rw [hXY, List.foldl_append, List.foldl_cons]
        rw [this, hT1, hnew]
        simp
      have hres := circ_some hp hd1 hmin k (n + 1) (stepL E s rows seen).1 _ _ (stepL E s rows seen).2 (r0 ++ [p]) (by omega) (by omega) (by omega) (rows_step hok hsn).1 (rows_step hok hsn).2 hlev
        ⟨fun res hw => hgood.way res (.step hpick hps (by rw [lastD_snoc] at hw; exact hw)), .inr ⟨by omega, by rw [lastD_snoc, show d1 + 2 - (n + 1) = d1 + 1 - n by omega]; exact hip⟩, fun x hx => ?_⟩ (fun e => by omega) (fun _ r hr => by rw [show d1 + 2 - (n + 1) = d1 + 1 - n by omega]; exact accX.1 r hr)
      · obtain ⟨res, hr1, hr2⟩ := hres
        refine ⟨res, ?_, hr2⟩
        unfold circR
        rw [hf, hne]
        exact hr1
      · rcases List.mem_append.1 hx with hx | hx
        · rcases hgood.els x hx with e | ⟨d, hid, hle⟩
          · exact .inl e
          · exact .inr ⟨d, hid, by omega⟩
        · obtain rfl := List.mem_singleton.1 hx
          exact .inr ⟨_, hip, by omega⟩
theorem isD_bound {K : List Int} (hE : ∀ t u, u ∈ E t → t ∈ K) : ∀ {n : Nat} {u : Int}, IsD E s n u → ∃ L : List Int, L.length = n ∧ L.Nodup ∧ ∀ x ∈ L, x ∈ K ∧ ∃ d, d ≤ n ∧ 1 ≤ d ∧ IsD E s d x
  | 0, u, _ => ⟨[], rfl, List.nodup_nil, fun x h => by cases h⟩
  | n + 1, u, h => by
    obtain ⟨v, hv, hi⟩ := isD_step h
    obtain ⟨L, h1, h2, h3⟩ := isD_bound hE hi
    refine ⟨u :: L, by rw [List.length_cons, h1], List.nodup_cons.2 ⟨fun hm => ?_, h2⟩, fun x hx => ?_⟩
    · obtain ⟨_, d, hd, _, hid⟩ := h3 u hm
      have := isD_uniq hid h
      omega
    · rcases List.mem_cons.1 hx with rfl | hx
      · exact ⟨hE _ v hv, n + 1, by omega, by omega, h⟩
      · obtain ⟨g1, d, g2, g3, g4⟩ := h3 x hx
        exact ⟨g1, d, by omega, g3, g4⟩
/-- The search finds what the way back finds. -/
theorem circ_way {K : List Int} (hE : ∀ t u, u ∈ E t → t ∈ K) {f : Nat} (hK : K.length < f) : WayD E s s [s] (circR E s f [[s]] []) := by
  have hok : ∀ r ∈ [[s]], RowOk E s 1 r := fun r hr => by
    obtain rfl := List.mem_singleton.1 hr
    exact ⟨rfl, .inl ⟨rfl, rfl⟩⟩
  obtain ⟨ps1, ps2⟩ := pick_spec (E := E) (s := s) (l := E s) _ (Nat.le_refl _)
  rw [List.take_length] at ps1 ps2
  cases hp : pickM E s (E s) with
  | none =>
    rw [circ_none (ps2 hp) f 1 _ _ hok (fun m hm => by cases hm)]
    exact .stop hp
  | some p1 =>
    obtain ⟨_, d1, hd1, hmin⟩ := ps1 p1 hp
    obtain ⟨L, hL, hnd, hLK⟩ := isD_bound hE (dOf_some.1 hd1)
    have hle := hnd.length_le_of_subset (fun x hx => (hLK x hx).1)
    obtain ⟨res, h1, h2⟩ := circ_some hp hd1 hmin f 1 [[s]] [] [] [] [s] (Nat.le_refl _) (by omega) (by omega) hok (fun m hm => by cases hm) rfl ⟨fun res h => h, .inl ⟨rfl, rfl⟩, fun x hx => .inl (List.mem_singleton.1 hx)⟩ (fun _ => rfl) (fun h => by omega)
    rw [h1]; exact h2
theorem dp_walk : ∀ {n : Nat} {u : Int}, DP E s n u ↔ WalkR E s n u
  | 0, u => ⟨fun h => by have h : u = s := h; rw [h]; exact .zero, fun h => by cases h; exact rfl⟩
  | n + 1, u => ⟨fun ⟨h1, v, h2, h3⟩ => .succ h1 h2 (dp_walk.1 h3), fun h => by
      cases h with
      | succ h1 h2 h3 => exact ⟨h1, _, h2, dp_walk.2 h3⟩⟩
theorem dist_of : IsDist E s (dOf E s) := fun x k => by
  rw [dOf_some]
  constructor
  · rintro ⟨h1, h2⟩
    exact ⟨dp_walk.1 h1, fun j hj => Nat.le_of_not_lt fun hlt => h2 j hlt (dp_walk.2 hj)⟩
  · rintro ⟨h1, h2⟩
    exact ⟨dp_walk.2 h1, fun j hj hd => by have := h2 j (dp_walk.1 hd); omega⟩
theorem best_step {st : Option Int} {y : Int} : bestS s (dOf E s) st y = pickStep E s st y := by
  unfold bestS bestC pickStep
  cases hd : dOf E s y with
  | none => simp
  | some d =>
    have hge := dp_ge (dOf_some.1 hd).1
    cases st with
    | none => simp [hge]
    | some b => simp [hge]
theorem best_pick {a : Int} : bestM E s (dOf E s) a = pickM E s (E a) := by
  unfold bestM pickM
  congr 1
  funext st y
  exact best_step
theorem way_path {a : Int} {o : List Int} {r : Option (List Int)} (h : WayD E s a o r) : PathR E s (dOf E s) a o r := by
  induction h with
  | stop h => exact .no (best_pick.trans h)
  | done h => exact .fin (best_pick.trans h)
  | step h hb _ ih => exact .go (best_pick.trans h) hb ih
/-- What the document's search finds is what the program finds. -/
theorem short_circ {K : List Int} (hE : ∀ t u, u ∈ E t → t ∈ K) {f : Nat} (hK : K.length < f) : shortF E s = circR E s f [[s]] [] := shortF_eq ⟨_, dist_of, way_path (circ_way hE hK)⟩
end
end Go.Proofs.YtibhpoikhkokiaaGreat.Hw
