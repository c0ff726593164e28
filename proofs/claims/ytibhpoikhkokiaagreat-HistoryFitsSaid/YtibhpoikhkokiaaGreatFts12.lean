/- Wn Wq Wr Ws (joined by merge.py) -/
import Derived.Test.YtibhpoikhkokiaaGreatFts11
import Derived.Test.YtibhpoikhkokiaaGreatFts10
/- The document's fits, walked (c134, c109, c108, c110, c95, c96, c67, c28, c27, c26). -/
set_option linter.unusedVariables false
set_option linter.unusedSimpArgs false
set_option linter.unusedSectionVars false
set_option maxRecDepth 20000
namespace Go.Proofs.YtibhpoikhkokiaaGreat.Hw
open Go Go.Proofs
theorem rdB_false {l : List Ev} {t stmt place : Int} {i n : Nat} (h : rdAt l t stmt place i = false) (hi : i < n) : rdB l t stmt place n = false := by
  cases hh : rdB l t stmt place n with
  | false => rfl
  | true =>
    have := List.all_eq_true.1 hh i (List.mem_range.2 hi)
    rw [h] at this; cases this
theorem found_iff {l : List Ev} {t st lo hi u : Int} : foundB l t st lo hi u = true ↔ ∃ p : Int, lo ≤ p ∧ p ≤ hi ∧ fitsB l t st p u = true := by
  refine ⟨found_ex, fun ⟨p, h1, h2, h3⟩ => ?_⟩
  unfold foundB
  rw [List.any_eq_true]
  refine ⟨(p - lo).toNat, List.mem_range.2 (by omega), ?_⟩
  rw [show lo + (((p - lo).toNat : Nat) : Int) = p by omega]
  exact h3
theorem rlast_succ {l : List Ev} {item : Int} {i : Nat} {x : Ev} (hx : l[i]? = some x) : rlast l item (i + 1) = rlS l item (rlast l item i) x := by
  unfold rlast
  rw [take_snoc hx, List.foldl_append]; rfl
section
variable {H H' H0 : Hp} {Q : Value → Hp → Prop} {g ga : Nat} {A : Option Addr} {n c : Nat} {l : List Ev}
theorem c134 {item : Int} {k : Nat} (B : HisAt H g ga A n c l) (hok : OkTo l l.length) (hk : k ≤ l.length) (hq : Q (.int .i64 (lastM l item k)) H) : HCalls Tryz.prog 134 [.pointer (some ⟨g, 0, none⟩), .int .i64 item, .int .i64 (k : Int)] H Q := by
  refine f134.ok _ _ _ _ ?_
  unfold f134
  rw [← last_eq hok hk] at hq
  have hA := B.evs
  have hcap := B.cap
  obtain rfl := hA.len
  have hlt := hA.lt
  refine ⟨_, _, _, B.cl0, by omega, by omega, ?_⟩
  simp only [Int.toNat_natCast, Nat.sub_zero, cut_zero]
  refine loop_to k (fun i st H' => st = ((rlast l item i, ((i : Int), ())), ()) ∧ H' = H) ⟨rfl, rfl⟩ ?_
  rintro i st H3 next hi ⟨rfl, rfl⟩ hnext
  dsimp only
  by_cases hl : i < k
  · obtain ⟨x, hx⟩ := get_of (l := l) (i := i) (by omega)
    have ei : IntKind.i64.wrap ((i : Int) + 1) = ((i + 1 : Nat) : Int) := by rw [wrap_id (by omega) (by omega)]; rfl
    refine cndT (decide_eq_true (by omega)) (jn_intro (fun J => J (rlS l item (rlast l item i) x) H3) ⟨rfl, hnext _ _ hl ⟨by rw [ei, rlast_succ hx], rfl⟩⟩ fun J hJ => ⟨by omega, by omega, rd_ev hA hx fun q o _ k1 k2 k3 k4 k5 => ⟨x.op, by simpa using k1, x.txn, by simpa using k2, x.item, by simpa using k3, x.frm, by simpa using k4, x.stmt, by simpa using k5, ?_⟩⟩)
    unfold rlS at hJ
    refine jn_intro (fun J16 => ∀ b, b = ((x.op == 4) && wrFrom l x.txn item 0) → J16 b H3) (fun b hb => cndI (fun h => ?_) fun h => ?_) fun J16 h16 => cndI (fun h => c90 (k := 0) B (Nat.zero_le _) ⟨_, rfl, h16 _ (by rw [h]; rfl)⟩) fun h => h16 _ (by rw [h]; rfl)
    · rw [← hb, h, if_pos rfl] at hJ; exact hJ
    · rw [← hb, h, if_neg (by decide)] at hJ; exact hJ
  · obtain rfl : i = k := by omega
    exact cndF (decide_eq_false (by omega)) hq
theorem c109 {t item : Int} {f u : Nat} (B : HisAt H g ga A n c l) (hok : OkTo l l.length) (hs : l.length ≤ 2000) (hf : f ≤ l.length) (hu : u ≤ l.length) (hq : Q (.bool (cleanB l t item f u)) H) :
    HCalls Tryz.prog 109 [.pointer (some ⟨g, 0, none⟩), .int .i64 t, .int .i64 item, .int .i64 (f : Int), .int .i64 (u : Int)] H Q := by
  refine f109.ok _ _ _ _ _ _ ?_
  unfold f109
  have hA := B.evs
  obtain rfl := hA.len
  refine loop_to (u - f) (fun i st H' => st = ((((f + i : Nat) : Int), ()), ()) ∧ H' = H ∧ ∀ (j : Nat) (x : Ev), f ≤ j → j < f + i → l[j]? = some x → x.op = 4 → x.txn ≠ t → wrFrom l x.txn item 0 = false) ⟨rfl, rfl, fun j x h1 h2 => by omega⟩ ?_
  rintro i st H3 next hi ⟨rfl, rfl, hI⟩ hnext
  dsimp only
  by_cases hl : f + i < u
  · obtain ⟨x, hx⟩ := get_of (l := l) (i := f + i) (by omega)
    have ei : IntKind.i64.wrap (((f + i : Nat) : Int) + 1) = ((f + (i + 1) : Nat) : Int) := by rw [wrap_id (by omega) (by omega)]; omega
    refine cndT (decide_eq_true (by omega)) ⟨_, _, _, B.cl0, by omega, by omega, rd_ev hA hx fun q o _ k1 k2 k3 k4 k5 => ⟨x.op, by simpa only [Int.toNat_natCast] using k1, x.txn, by simpa only [Int.toNat_natCast] using k2, x.item, by simpa only [Int.toNat_natCast] using k3, x.frm, by simpa only [Int.toNat_natCast] using k4, x.stmt, by simpa only [Int.toNat_natCast] using k5, ?_⟩⟩
    refine jn_intro (fun J16 => ∀ b, b = ((x.op == 4) && ((x.txn != t) && wrFrom l x.txn item 0)) → J16 b H3) (fun b hb => cndI (fun h => ?_) fun h => ⟨rfl, hnext _ _ (by omega) ⟨by rw [ei], rfl, fun j y h1 h2 hy ho ht => ?_⟩⟩) fun J16 h16 => cndI (fun h => cndI (fun h2 => c90 (k := 0) B (Nat.zero_le _) ⟨_, rfl, h16 _ (by rw [h, h2]; rfl)⟩) fun h2 => h16 _ (by rw [h, h2]; rfl)) fun h => h16 _ (by rw [h]; rfl)
    · rw [h] at hb
      have hb := hb.symm
      simp only [Bool.and_eq_true, beq_iff_eq, bne_iff_ne, ne_eq] at hb
      have : cleanB l t item f u = false := by
        rw [← Bool.not_eq_true, clean_iff hok]
        intro hh
        have := hh (f + i) x (by omega) hl hx hb.1 hb.2.1
        rw [hb.2.2] at this; cases this
      rw [this] at hq; exact hq
    · by_cases ej : j = f + i
      · subst ej; rw [hx] at hy; cases hy
        rw [h, ho] at hb
        have ht' : (x.txn != t) = true := by simpa using ht
        rw [ht'] at hb
        simpa using hb
      · exact hI j y h1 (by omega) hy ho ht
  · have : cleanB l t item f u = true := (clean_iff hok).2 fun j x h1 h2 => hI j x h1 (by omega)
    rw [this] at hq
    exact cndF (decide_eq_false (by omega)) hq
theorem c108 {t stmt : Int} {p : Nat} (B : HisAt H g ga A n c l) (hok : OkTo l l.length) (hs : l.length ≤ 2000) (hp : p ≤ l.length) (hq : ∀ H', Ext H H' → Q (.bool (rdB l t stmt p l.length)) H') :
    HCalls Tryz.prog 108 [.pointer (some ⟨g, 0, none⟩), .int .i64 t, .int .i64 stmt, .int .i64 (p : Int)] H Q := by
  refine f108.ok _ _ _ _ _ ?_
  unfold f108
  have hA := B.evs
  obtain rfl := hA.len
  have hlt := hA.lt
  refine ⟨_, _, _, B.cl0, ?_⟩
  refine loop_to l.length (fun i st H' => ∃ A1 c1 wr, st = (((A1, wr.length, c1), ((i : Int), ())), ()) ∧ Ext H H' ∧ RowI H H' A1 c1 wr ∧ wr.length ≤ i ∧ (∀ item, (wr.any fun y => y == item) = wroteM (l.take i) t item) ∧ rdB l t stmt p i = true) ⟨none, 0, [], rfl, Ext.refl _, Row.nil, Nat.le_refl _, fun item => rfl, rfl⟩ ?_
  rintro i st H3 next hi ⟨A1, c1, wr, rfl, hx3, R3, hwl, hwr, hrd⟩ hnext
  dsimp only
  by_cases hl : i < l.length
  rotate_left
  · obtain rfl : i = l.length := by omega
    rw [hrd] at hq
    exact cndF (decide_eq_false (by omega)) (hq H3 hx3)
  obtain ⟨x, hx⟩ := get_of (l := l) (i := i) (by omega)
  have ei : IntKind.i64.wrap ((i : Int) + 1) = ((i + 1 : Nat) : Int) := by rw [wrap_id (by omega) (by omega)]; rfl
  have B3 := B.ext hx3
  have ews : ∀ item, wroteM (l.take (i + 1)) t item = (wroteM (l.take i) t item || isW t item x) := fun item => by rw [take_snoc hx, wrote_snoc]
  refine cndT (decide_eq_true (by omega)) (jn_intro (fun J => ∀ A' c' wr' H', Ext H H' → RowI H H' A' c' wr' → wr'.length ≤ i + 1 → (∀ item, (wr'.any fun y => y == item) = ((wr.any fun y => y == item) || isW t item x)) → rdAt l t stmt p i = true → J A' wr'.length c' H') (fun A' c' wr' H' a1 a2 a3 a4 a5 => ⟨rfl, hnext _ _ hl ⟨A', c', wr', by rw [ei], a1, a2, a3, fun item => by rw [a4, ews, hwr], by rw [rdB_succ, hrd, a5]; rfl⟩⟩) fun J hJ => ⟨by omega, by omega, rd_ev (hA.ext hx3) hx fun q o _ k1 k2 k3 k4 k5 => ⟨x.op, by simpa using k1, x.txn, by simpa using k2, x.item, by simpa using k3, x.frm, by simpa using k4, x.stmt, by simpa using k5, ?_⟩⟩)
  have era : rdAt l t stmt p i = if (x.txn == t) && ((x.op == 2) && wantedB stmt x) then x.frm == (if wroteM (l.take i) t x.item then t else lastM l x.item p) else true := by unfold rdAt; rw [hx]
  refine cndI (fun h1 => ?_) fun h1 => ?_
  · have ht : (x.txn == t) = false := by unfold bne at h1; simpa using h1
    refine hJ A1 c1 wr H3 hx3 R3 (by omega) (fun item => ?_) ?_
    · unfold isW; rw [ht]; simp
    · rw [era, ht]; rfl
  have ht : (x.txn == t) = true := by unfold bne at h1; simpa using h1
  rw [ht, Bool.true_and] at era
  refine jn_intro (fun J23 => ∀ H', Ext H3 H' → rdAt l t stmt p i = true → J23 H') (fun H' hx' hra => cndI (fun h3 => ?_) fun h3 => ?_) fun J23 h23 => ?_
  · intro g24 hg24
    have R' := R3.more hx'
    refine Row.push1 (w := x.item) (f := inC) (k := 1) (ty := 3) (fun _ => rfl) (fun y v hv => by obtain rfl := List.mem_singleton.1 hv; rfl) (by omega) R' (hx3.trans hx') (by unfold big; omega) hg24 fun A' c' H'' R'' x'' _ _ => hJ A' c' _ H'' x'' R'' (by simp; omega) (fun item => ?_) hra
    rw [List.any_append]
    congr 1
    unfold isW
    rw [h3, ht]
    simp
  · refine hJ A1 c1 wr H' (hx3.trans hx') (R3.more hx') (by omega) (fun item => ?_) hra
    unfold isW; rw [h3]; simp
  refine jn_intro (fun J12 => ∀ b, b = ((x.op == 2) && wantedB stmt x) → J12 b) (fun b hb => cndI (fun hbt => ?_) fun hbf => h23 H3 (Ext.refl _) (by rw [era, ← hb, hbf]; rfl)) fun J12 h12 => cndI (fun h2 => cndI (fun h3 => h12 _ (by unfold wantedB; rw [h2, h3]; rfl)) fun h3 => h12 _ (by unfold wantedB; rw [h2, h3]; rfl)) fun h2 => h12 _ (by rw [h2]; rfl)
  rw [← hb, hbt, if_pos rfl] at era
  refine jn_intro (fun J21 => ∀ w, w = (if wroteM (l.take i) t x.item then t else lastM l x.item p) → J21 w H3) (fun w hw => cndI (fun hne => ?_) fun he => h23 H3 (Ext.refl _) ?_) fun J21 h21 => c57 (R3.at (by unfold big; omega)) ⟨_, rfl, cndI (fun h => c134 B3 hok hp ⟨_, rfl, h21 _ ?_⟩) fun h => h21 _ ?_⟩
  · rw [← hw] at era
    have : rdAt l t stmt p i = false := by rw [era]; unfold bne at hne; simpa using hne
    rw [rdB_false this hl] at hq
    exact hq H3 hx3
  · rw [era, ← hw]; unfold bne at he; simpa using he
  · rw [hwr] at h
    rw [if_neg (by simpa using h)]
  · rw [hwr] at h
    rw [if_pos (by simpa using h)]
end
theorem wrAt_off {l : List Ev} {t s place u : Int} {j : Nat} {x : Ev} (hx : l[j]? = some x) (h : ((x.op == 3) && ((x.txn == t) && wantedB s x)) = false) : wrAt l t s place u j = true := by
  unfold wrAt
  rw [hx]
  simp only
  rw [if_neg]
  rw [← Bool.and_assoc, Bool.and_comm (x.txn == t), Bool.and_assoc, h]
  decide
theorem wrAt_on {l : List Ev} {t s place u : Int} {j : Nat} {x : Ev} (hx : l[j]? = some x) (h : ((x.op == 3) && ((x.txn == t) && wantedB s x)) = true) : wrAt l t s place u j = cleanB l t x.item place (if decide (u < 0) then (j : Int) else u) := by
  unfold wrAt
  rw [hx]
  simp only
  rw [if_pos]
  rw [← Bool.and_assoc, Bool.and_comm (x.txn == t), Bool.and_assoc, h]
section
variable {H H' H0 : Hp} {Q : Value → Hp → Prop} {g ga : Nat} {A : Option Addr} {n c : Nat} {l : List Ev}
theorem c110 {t : Int} {i p : Nat} {x : Ev} (B : HisAt H g ga A n c l) (hok : OkTo l l.length) (hs : l.length ≤ 2000) (hf : FirstAt l t i x) (hp : PrevAt l t i p) (hq : ∀ H', Ext H H' → Q (.bool (foundB l t x.stmt ((p : Int) + 1) i (-1))) H') :
    HCalls Tryz.prog 110 [.pointer (some ⟨g, 0, none⟩), .int .i64 t, .int .i64 x.stmt] H Q := by
  refine f110.ok _ _ _ _ ?_
  unfold f110
  have hA := B.evs
  obtain rfl := hA.len
  have hlt := hA.lt
  obtain ⟨hxi, hxo, hfirst⟩ := hf
  have hil := (List.getElem?_eq_some_iff.1 hxi).1
  obtain ⟨hpi, ⟨py, hpy, hpt⟩, hbetw⟩ := hp
  have hs1 := op_stmt hok hxi hxo
  have hxt := (opOf_iff.1 hxo).1
  refine ⟨_, _, _, B.cl0, ?_⟩
  refine loop_to l.length (fun m st H' => ∃ lst mst : Int, st = ((lst, (mst, ((m : Int), ()))), ()) ∧ H' = H ∧ (p < m → lst = (p : Int) + 1) ∧ (m ≤ i → mst = -1) ∧ (i < m → mst = (i : Int))) ⟨0, -1, rfl, rfl, fun h => by omega, fun _ => rfl, fun h => by omega⟩ ?_
  rintro m st H3 next hm ⟨lst, mst, rfl, rfl, h1, h2, h3⟩ hnext
  dsimp only
  by_cases hml : m < l.length
  · obtain ⟨y, hy⟩ := get_of hml
    have em : IntKind.i64.wrap ((m : Int) + 1) = ((m + 1 : Nat) : Int) := by rw [wrap_id (by omega) (by omega)]; rfl
    refine cndT (decide_eq_true (by omega)) (jn_intro (fun J => ∀ lst' mst', (p < m + 1 → lst' = (p : Int) + 1) → (m + 1 ≤ i → mst' = -1) → (i < m + 1 → mst' = (i : Int)) → J lst' mst') (fun lst' mst' a1 a2 a3 => ⟨rfl, hnext _ _ hml ⟨lst', mst', by rw [em], rfl, a1, a2, a3⟩⟩) fun J hJ => ⟨by omega, by omega, rd_ev hA hy fun q o _ k1 k2 k3 k4 k5 => ⟨y.op, by simpa using k1, y.txn, by simpa using k2, y.item, by simpa using k3, y.frm, by simpa using k4, y.stmt, by simpa using k5, ?_⟩⟩)
    refine cndI (fun ht => ?_) fun ht => ?_
    · have ht : y.txn ≠ t := by simpa using ht
      have hmp : m ≠ p := fun e => by subst e; rw [hpy] at hy; cases hy; exact ht hpt
      have hmi : m ≠ i := fun e => by subst e; rw [hxi] at hy; cases hy; exact ht hxt
      exact hJ lst mst (fun h => h1 (by omega)) (fun h => h2 (by omega)) fun h => h3 (by omega)
    have ht : y.txn = t := by simpa using ht
    have hyparts := ev_parts (hok m y hml hy)
    -- the one before
    refine jn_intro (fun J14 => ∀ lst', (p < m + 1 → lst' = (p : Int) + 1) → J14 lst') (fun lst' hl' => ?_) fun J14 h14 => ?_
    · refine jn_intro (fun J16 => ∀ b, b = (opOf t y && ((y.stmt == x.stmt) && decide (mst < 0))) → J16 b) (fun b hb => cndI (fun hbt => ?_) fun hbf => ?_) fun J16 h16 => ?_
      · rw [hbt] at hb
        have hb := hb.symm
        simp only [Bool.and_eq_true, beq_iff_eq, decide_eq_true_eq] at hb
        obtain ⟨b1, b2, b3⟩ := hb
        have hmi : m = i := by
          rcases Nat.lt_trichotomy m i with h | h | h
          · exact absurd b2 (hfirst m y h hy b1)
          · exact h
          · have := h3 h; omega
        subst hmi
        exact hJ lst' _ hl' (fun h => by omega) fun _ => rfl
      · refine hJ lst' mst hl' (fun h => h2 (by omega)) fun h => ?_
        by_cases e : m = i
        · subst e
          rw [hxi] at hy; cases hy
          rw [hbf, hxo, h2 (Nat.le_refl _)] at hb
          simp at hb
        · exact h3 (by omega)
      · have eo : opOf t y = (y.op == 2 || y.op == 3) := by unfold opOf; rw [ht]; simp
        rw [eo] at h16
        refine cndI (fun g1 => cndI (fun g2 => h16 _ ?_) fun g2 => h16 _ ?_) fun g1 => cndI (fun g3 => cndI (fun g2 => h16 _ ?_) fun g2 => h16 _ ?_) fun g3 => h16 _ ?_
        · rw [g1, g2]; rfl
        · rw [g1, g2]; rfl
        · rw [g1, g3, g2]; rfl
        · rw [g1, g3, g2]; rfl
        · rw [g1, g3]; rfl
    · refine jn_intro (fun J12 => ∀ b, b = ((y.op == 1) || ((y.op == 2 || y.op == 3) && decide (y.stmt < x.stmt))) → J12 b) (fun b hb => cndI (fun hbt => h14 _ fun h => ?_) fun hbf => h14 _ fun h => ?_) fun J12 h12 => ?_
      · rw [em]
        by_cases e : m = p
        · subst e; rfl
        · exfalso
          have hpm : p < m := by omega
          have him : i ≤ m := Nat.le_of_not_lt fun hlt' => hbetw m y hpm hlt' hy ht
          rw [hbt] at hb
          have hb := hb.symm
          simp only [Bool.or_eq_true, Bool.and_eq_true, beq_iff_eq, decide_eq_true_eq] at hb
          rcases hb with hb | ⟨hb1, hb2⟩
          · have hbeg : begunM (l.take m) y.txn = true := by
              rw [ht]
              have hob : ∃ b', beginI l t = some b' ∧ b' < i := by
                have := hok.begin_lt hxi (by rcases (opOf_iff.1 hxo).2 with h | h <;> omega)
                rw [hxt] at this; exact this
              obtain ⟨b', g1, g2⟩ := hob
              obtain ⟨z, g3, g4, _⟩ := lastI_some (show lastI (isB t) l = some b' from g1)
              exact any_take.2 ⟨b', z, by omega, g3, g4⟩
            exact (hyparts.2.2.1.1 hbeg) hb
          · have hyo : opOf t y = true := opOf_iff.2 ⟨ht, hb1⟩
            by_cases e2 : m = i
            · subst e2; rw [hxi] at hy; cases hy; omega
            · have := (stmt_inv hok (t := t) (n := m) (by omega)).1 i x (by omega) hxi hxo
              have := op_stmt hok hy hyo
              omega
      · by_cases e : m = p
        · exfalso
          subst e
          rw [hpy] at hy; cases hy
          rw [hbf] at hb
          have hb := hb.symm
          rcases hyparts.2.2.2 with ⟨e, _⟩ | ⟨e, _⟩ | ⟨e, _⟩ | ⟨e, _⟩
          · rw [e] at hb; simp at hb
          · have hyo : opOf t py = true := opOf_iff.2 ⟨hpt, .inl e⟩
            have g1 := hfirst m py hpi hpy hyo
            have g2 := (stmt_inv hok (t := t) (n := i) (by omega)).1 m py hpi hpy hyo
            rw [e] at hb
            simp at hb
            omega
          · have hyo : opOf t py = true := opOf_iff.2 ⟨hpt, .inr e⟩
            have g1 := hfirst m py hpi hpy hyo
            have g2 := (stmt_inv hok (t := t) (n := i) (by omega)).1 m py hpi hpy hyo
            rw [e] at hb
            simp at hb
            omega
          · exact hok.after hpy hxi hil hpi (isE_iff.2 ⟨e, by rw [hpt, hxt]⟩)
        · exact h1 (by omega)
      · refine cndI (fun g1 => h12 _ (by rw [g1]; rfl)) fun g1 => cndI (fun g2 => h12 _ ?_) fun g2 => cndI (fun g3 => h12 _ ?_) fun g3 => h12 _ ?_
        · rw [g1, g2]; rfl
        · rw [g1, g2, g3]; rfl
        · rw [g1, g2, g3]; rfl
  obtain rfl : m = l.length := by omega
  obtain rfl := h1 (by omega)
  obtain rfl := h3 hil
  refine cndF (decide_eq_false (by omega)) ?_
  refine loop_to (i - p) (fun k st H' => st = ((((p + 1 + k : Nat) : Int), ()), ()) ∧ Ext H3 H' ∧ ∀ q : Nat, p + 1 ≤ q → q < p + 1 + k → fitsB l t x.stmt q (-1) = false) ⟨by simp, Ext.refl _, fun q a b => by omega⟩ ?_
  rintro k st H21 next2 hk ⟨rfl, hx21, hno⟩ hnext2
  dsimp only
  by_cases hkl : p + 1 + k ≤ i
  rotate_left
  · have : foundB l t x.stmt ((p : Int) + 1) i (-1) = false := by
      rw [← Bool.not_eq_true, found_iff]
      rintro ⟨q, a1, a2, a3⟩
      have := hno q.toNat (by omega) (by omega)
      rw [show ((q.toNat : Nat) : Int) = q by omega, a3] at this
      cases this
    rw [this] at hq
    exact cndF (decide_eq_false (by omega)) (hq H21 hx21)
  generalize hpl : p + 1 + k = pl at hnext2 hkl hno ⊢
  have ek : IntKind.i64.wrap ((pl : Int) + 1) = ((p + 1 + (k + 1) : Nat) : Int) := by rw [wrap_id (by omega) (by omega)]; omega
  have B21 := B.ext hx21
  refine cndT (decide_eq_true (by omega)) (c108 B21 hok hs (by omega) fun H24 x24 => ⟨_, rfl, _, _, _, (B21.ext x24).cl0, ?_⟩)
  have B24 := B21.ext x24
  refine loop_to l.length (fun j st H' => st = (((rdB l t x.stmt pl l.length && wrB l t x.stmt pl (-1) j), ((j : Int), ())), ()) ∧ H' = H24) ⟨by simp [wrB], rfl⟩ ?_
  rintro j st H28 next3 hj ⟨rfl, rfl⟩ hnext3
  dsimp only
  by_cases hjl : j < l.length
  · obtain ⟨y, hy⟩ := get_of hjl
    have ej : IntKind.i64.wrap ((j : Int) + 1) = ((j + 1 : Nat) : Int) := by rw [wrap_id (by omega) (by omega)]; rfl
    refine cndT (decide_eq_true (by omega)) (jn_intro (fun J => J ((rdB l t x.stmt pl l.length && wrB l t x.stmt pl (-1) j) && wrAt l t x.stmt pl (-1) j) H28) ⟨rfl, hnext3 _ _ hjl ⟨by rw [ej, wrB_succ, Bool.and_assoc], rfl⟩⟩ fun J hJ => ⟨by omega, by omega, rd_ev (hA.ext (hx21.trans x24)) hy fun q o _ k1 k2 k3 k4 k5 => ⟨y.op, by simpa using k1, y.txn, by simpa using k2, y.item, by simpa using k3, y.frm, by simpa using k4, y.stmt, by simpa using k5, ?_⟩⟩)
    have hz : (x.stmt == 0) = false := by have : x.stmt ≠ 0 := by omega
                                          simpa using this
    refine jn_intro (fun J37 => ∀ b, b = ((y.op == 3) && ((y.txn == t) && wantedB x.stmt y)) → J37 b) (fun b hb => cndI (fun hbt => ?_) fun hbf => ?_) fun J37 h37 => ?_
    · rw [hbt] at hb
      have en : (if decide ((-1 : Int) < 0) then (j : Int) else -1) = (j : Int) := rfl
      rw [wrAt_on hy hb.symm, en] at hJ
      refine cndI (fun h => ?_) fun h => ?_
      · rw [h, Bool.true_and] at hJ
        exact c109 B24 hok hs (by omega) (by omega) ⟨_, rfl, hJ⟩
      · rw [h, Bool.false_and] at hJ; exact hJ
    · rw [hbf] at hb
      rw [wrAt_off hy hb.symm, Bool.and_true] at hJ
      exact hJ
    · unfold wantedB at h37
      rw [hz] at h37
      refine cndI (fun g1 => cndI (fun g2 => h37 _ ?_) fun g2 => h37 _ ?_) fun g1 => h37 _ ?_
      · rw [g1, g2]; simp
      · rw [g1, g2]; rfl
      · rw [g1]; rfl
  · obtain rfl : j = l.length := by omega
    rw [← fits_split]
    refine cndF (decide_eq_false (by omega)) (cndI (fun h => ?_) fun h => ⟨rfl, hnext2 _ _ (by omega) ⟨by rw [ek], hx21.trans x24, fun q a b => ?_⟩⟩)
    · have : foundB l t x.stmt ((p : Int) + 1) i (-1) = true := found_iff.2 ⟨(pl : Int), by omega, by omega, h⟩
      rw [this] at hq
      exact hq H28 (hx21.trans x24)
    · by_cases e : q = pl
      · rw [e]; exact h
      · exact hno q a (by omega)
theorem high_spec {t : Int} (hok : OkTo l l.length) {k ci : Nat} (hb : beginI l t = some k) (hc : commitI l t = some ci) : k < highM l t ∧ highM l t < l.length ∧ (∃ y, l[highM l t]? = some y ∧ y.txn = t ∧ y.op ≠ 1) ∧ ∀ (m : Nat) (y : Ev), k < m → m < highM l t → l[m]? = some y → y.txn ≠ t := by
  obtain ⟨cx, hcx, hcp⟩ := commit_get hc
  obtain ⟨bx, hbx, hbp, _⟩ := lastI_some (show lastI (isB t) l = some k from hb)
  have hcl := (List.getElem?_eq_some_iff.1 hcx).1
  obtain ⟨k', hk', hkc⟩ := com_begin hok hc
  rw [hb] at hk'; cases hk'
  have hnb : ∀ (m : Nat) (y : Ev), k < m → l[m]? = some y → y.txn = t → y.op ≠ 1 := fun m y h1 hy ht => by
    have hbeg : begunM (l.take m) y.txn = true := any_take.2 ⟨k, bx, h1, hbx, by rw [ht]; exact hbp⟩
    exact (ev_parts (hok m y (List.getElem?_eq_some_iff.1 hy).1 hy)).2.2.1.1 hbeg
  have mid : ∀ (m : Nat) (y : Ev) (e : Nat) (z : Ev), k < m → m < e → l[m]? = some y → l[e]? = some z → z.txn = t → y.txn = t → opOf t y = true := fun m y e z h1 h2 hy hz hzt ht => by
    have hne1 := hnb m y h1 hy ht
    rcases (ev_parts (hok m y (List.getElem?_eq_some_iff.1 hy).1 hy)).2.2.2 with ⟨e, _⟩ | ⟨e, _⟩ | ⟨e, _⟩ | ⟨e, _⟩
    · exact absurd e hne1
    · exact opOf_iff.2 ⟨ht, .inl e⟩
    · exact opOf_iff.2 ⟨ht, .inr e⟩
    · exfalso
      exact hok.after hy hz (List.getElem?_eq_some_iff.1 hz).1 h2 (isE_iff.2 ⟨e, by rw [ht, hzt]⟩)
  unfold highM
  cases hf : l.findIdx? (opOf t) with
  | none =>
    have e : natOr (commitI l t) = ci := by rw [hc]; rfl
    simp only [e]
    refine ⟨hkc, hcl, ⟨cx, hcx, (isC_iff.1 hcp).2, by rw [(isC_iff.1 hcp).1]; decide⟩, fun m y h1 h2 hy ht => ?_⟩
    have := mid m y ci cx h1 h2 hy hcx (isC_iff.1 hcp).2 ht
    rw [List.findIdx?_eq_none_iff] at hf
    rw [hf y (List.mem_of_getElem? hy)] at this; cases this
  | some j =>
    rw [List.findIdx?_eq_some_iff_getElem] at hf
    obtain ⟨g1, g2, g3⟩ := hf
    have hy : l[j]? = some l[j] := List.getElem?_eq_getElem g1
    obtain ⟨e1, e2⟩ := opOf_iff.1 g2
    obtain ⟨k', hk', hkj⟩ := hok.begin_lt hy (by omega)
    rw [e1, hb] at hk'; cases hk'
    simp only
    refine ⟨hkj, g1, ⟨_, hy, e1, by omega⟩, fun m y h1 h2 hy' ht => ?_⟩
    have := mid m y j _ h1 h2 hy' hy e1 ht
    have h4 := g3 m h2
    rw [(List.getElem?_eq_some_iff.1 hy').2] at h4
    exact h4 this
theorem c95 {t : Int} (B : HisAt H g ga A n c l) (hok : OkTo l l.length) (hs : l.length ≤ 2000) (hc : comB l t = true) (hq : ∀ H', Ext H H' → Q (.bool (serialB l t)) H') :
    HCalls Tryz.prog 95 [.pointer (some ⟨g, 0, none⟩), .int .i64 t] H Q := by
  refine f95.ok _ _ _ ?_
  unfold f95
  have hA := B.evs
  obtain rfl := hA.len
  have hlt := hA.lt
  have htin := com_in hok hc
  obtain ⟨ci, hci⟩ := com_some hc
  obtain ⟨k, hb, hkc⟩ := com_begin hok hci
  obtain ⟨hkh, hhl, ⟨hy0, hhy, hht, hho⟩, hbetw⟩ := high_spec hok hb hci
  obtain ⟨bx, hbx, hbp, _⟩ := lastI_some (show lastI (isB t) l = some k from hb)
  obtain ⟨cx, hcx, hcp⟩ := commit_get hci
  have hcl := (List.getElem?_eq_some_iff.1 hcx).1
  have hcom : comV l t = (ci : Int) := by unfold comV; rw [hci]
  have hser : serialB l t = foundB l t 0 ((k : Int) + 1) (highM l t : Nat) ci := by
    unfold serialB
    rw [comAt_of hci]
    have : begAt l t = (k : Int) := by unfold begAt natOr; rw [hb]; rfl
    rw [this]
  rw [hser] at hq
  generalize highM l t = i at *
  refine ⟨_, _, _, B.cl0, ?_⟩
  refine loop_to l.length (fun m st H' => ∃ lst mst : Int, st = ((lst, (mst, ((m : Int), ()))), ()) ∧ H' = H ∧ (k < m → lst = (k : Int) + 1) ∧ (m ≤ i → mst = -1) ∧ (i < m → mst = (i : Int))) ⟨0, -1, rfl, rfl, fun h => by omega, fun _ => rfl, fun h => by omega⟩ ?_
  rintro m st H3 next hm ⟨lst, mst, rfl, rfl, h1, h2, h3⟩ hnext
  dsimp only
  by_cases hml : m < l.length
  · obtain ⟨y, hy⟩ := get_of hml
    have em : IntKind.i64.wrap ((m : Int) + 1) = ((m + 1 : Nat) : Int) := by rw [wrap_id (by omega) (by omega)]; rfl
    refine cndT (decide_eq_true (by omega)) (jn_intro (fun J => ∀ lst' mst', (k < m + 1 → lst' = (k : Int) + 1) → (m + 1 ≤ i → mst' = -1) → (i < m + 1 → mst' = (i : Int)) → J lst' mst') (fun lst' mst' a1 a2 a3 => ⟨rfl, hnext _ _ hml ⟨lst', mst', by rw [em], rfl, a1, a2, a3⟩⟩) fun J hJ => ⟨by omega, by omega, rd_ev hA hy fun q o _ k1 k2 k3 k4 k5 => ⟨y.op, by simpa using k1, y.txn, by simpa using k2, y.item, by simpa using k3, y.frm, by simpa using k4, y.stmt, by simpa using k5, ?_⟩⟩)
    have hmk : y.txn = t → y.op = 1 → m = k := fun ht ho => by
      have := hok.begin_at hy (isB_iff.2 ⟨ho, ht⟩)
      rw [hb] at this; cases this; rfl
    refine cndI (fun ht => ?_) fun ht => cndI (fun h4 => ?_) fun h4 => ?_
    · have ht : y.txn ≠ t := by simpa using ht
      have hmp : m ≠ k := fun e => by subst e; rw [hbx] at hy; cases hy; exact ht (isB_iff.1 hbp).2
      have hmi : m ≠ i := fun e => by subst e; rw [hhy] at hy; cases hy; exact ht hht
      exact hJ lst mst (fun h => h1 (by omega)) (fun h => h2 (by omega)) fun h => h3 (by omega)
    · have ht : y.txn = t := by simpa using ht
      have := hmk ht (by simpa using h4)
      subst this
      rw [em]
      exact hJ _ mst (fun _ => rfl) (fun h => h2 (by omega)) fun h => by omega
    · have ht : y.txn = t := by simpa using ht
      have ho : y.op ≠ 1 := by simpa using h4
      have hmne : m ≠ k := fun e => by subst e; rw [hbx] at hy; cases hy; exact ho (isB_iff.1 hbp).1
      have hmgt : k < m := by
        rcases Nat.lt_or_ge m k with h | h
        · exact absurd ht (no_before hok hb hy h)
        · omega
      have hmi : i ≤ m := Nat.le_of_not_lt fun h => hbetw m y hmgt h hy ht
      refine cndI (fun h5 => ?_) fun h5 => ?_
      · have h5 := of_decide_eq_true h5
        have : m = i := by
          rcases Nat.lt_or_ge i m with h | h
          · have := h3 h; omega
          · omega
        subst this
        exact hJ lst _ (fun _ => h1 hmgt) (fun h => by omega) fun _ => rfl
      · refine hJ lst mst (fun _ => h1 hmgt) (fun h => by omega) fun _ => ?_
        by_cases e : m = i
        · have := h2 (by omega); have := of_decide_eq_false h5; omega
        · exact h3 (by omega)
  obtain rfl : m = l.length := by omega
  obtain rfl := h1 (by omega)
  obtain rfl := h3 hhl
  refine cndF (decide_eq_false (by omega)) ?_
  refine loop_to (i - k) (fun j st H' => st = ((((k + 1 + j : Nat) : Int), ()), ()) ∧ Ext H3 H' ∧ ∀ q : Nat, k + 1 ≤ q → q < k + 1 + j → fitsB l t 0 q ci = false) ⟨by simp, Ext.refl _, fun q a b => by omega⟩ ?_
  rintro j st H15 next2 hj ⟨rfl, hx15, hno⟩ hnext2
  dsimp only
  by_cases hkl : k + 1 + j ≤ i
  rotate_left
  · have : foundB l t 0 ((k : Int) + 1) i ci = false := by
      rw [← Bool.not_eq_true, found_iff]
      rintro ⟨q, a1, a2, a3⟩
      have := hno q.toNat (by omega) (by omega)
      rw [show ((q.toNat : Nat) : Int) = q by omega, a3] at this
      cases this
    rw [this] at hq
    exact cndF (decide_eq_false (by omega)) (hq H15 hx15)
  generalize hpl : k + 1 + j = pl at hnext2 hkl hno ⊢
  have ek : IntKind.i64.wrap ((pl : Int) + 1) = ((k + 1 + (j + 1) : Nat) : Int) := by rw [wrap_id (by omega) (by omega)]; omega
  have B15 := B.ext hx15
  refine cndT (decide_eq_true (by omega)) (c108 B15 hok hs (by omega) fun H18 x18 => ⟨_, rfl, _, _, _, (B15.ext x18).cl0, ?_⟩)
  have B18 := B15.ext x18
  refine loop_to l.length (fun e st H' => st = (((rdB l t 0 pl l.length && wrB l t 0 pl ci e), ((e : Int), ())), ()) ∧ H' = H18) ⟨by simp [wrB], rfl⟩ ?_
  rintro e st H22 next3 he ⟨rfl, rfl⟩ hnext3
  dsimp only
  by_cases hel : e < l.length
  · obtain ⟨y, hy⟩ := get_of hel
    have ee : IntKind.i64.wrap ((e : Int) + 1) = ((e + 1 : Nat) : Int) := by rw [wrap_id (by omega) (by omega)]; rfl
    refine cndT (decide_eq_true (by omega)) (jn_intro (fun J => J ((rdB l t 0 pl l.length && wrB l t 0 pl ci e) && wrAt l t 0 pl ci e) H22) ⟨rfl, hnext3 _ _ hel ⟨by rw [ee, wrB_succ, Bool.and_assoc], rfl⟩⟩ fun J hJ => ⟨by omega, by omega, rd_ev (hA.ext (hx15.trans x18)) hy fun q o _ k1 k2 k3 k4 k5 => ⟨y.op, by simpa using k1, y.txn, by simpa using k2, y.item, by simpa using k3, y.frm, by simpa using k4, y.stmt, by simpa using k5, ?_⟩⟩)
    refine jn_intro (fun J31 => ∀ b, b = ((y.op == 3) && ((y.txn == t) && wantedB 0 y)) → J31 b) (fun b hb => cndI (fun hbt => ?_) fun hbf => ?_) fun J31 h31 => ?_
    · rw [hbt] at hb
      rw [wrAt_on hy hb.symm, if_neg (by simp)] at hJ
      refine cndI (fun h => ?_) fun h => ?_
      · rw [h, Bool.true_and] at hJ
        refine ⟨_, _, _, B18.cl1, by omega, by show t < ((201 : Nat) : Int); omega, B18.comF (by omega) htin.2 fun hcl' => ⟨_, hcl', ?_⟩⟩
        rw [hcom]
        exact c109 B18 hok hs (by omega) (by omega) ⟨_, rfl, hJ⟩
      · rw [h, Bool.false_and] at hJ; exact hJ
    · rw [hbf] at hb
      rw [wrAt_off hy hb.symm, Bool.and_true] at hJ
      exact hJ
    · refine cndI (fun g1 => h31 _ ?_) fun g1 => h31 _ ?_
      · rw [g1]; unfold wantedB; simp
      · rw [g1]; rfl
  · obtain rfl : e = l.length := by omega
    rw [← fits_split]
    refine cndF (decide_eq_false (by omega)) (cndI (fun h => ?_) fun h => ⟨rfl, hnext2 _ _ (by omega) ⟨by rw [ek], hx15.trans x18, fun q a b => ?_⟩⟩)
    · have : foundB l t 0 ((k : Int) + 1) i ci = true := found_iff.2 ⟨(pl : Int), by omega, by omega, h⟩
      rw [this] at hq
      exact hq H22 (hx15.trans x18)
    · by_cases e : q = pl
      · rw [e]; exact h
      · exact hno q a (by omega)
theorem c96 {t : Int} (B : HisAt H g ga A n c l) (hok : OkTo l l.length) (hs : l.length ≤ 2000) (hc : comB l t = true) (hq : ∀ H', Ext H H' → Q (.bool (eachB l t)) H') :
    HCalls Tryz.prog 96 [.pointer (some ⟨g, 0, none⟩), .int .i64 t] H Q := by
  refine f96.ok _ _ _ ?_
  unfold f96
  have hA := B.evs
  obtain rfl := hA.len
  have hlt := hA.lt
  refine ⟨_, _, _, B.cl0, ?_⟩
  refine loop_to l.length (fun i st H' => st = ((stmtM (l.take i) t, ((i : Int), ())), ()) ∧ Ext H H' ∧ EachP l t i) ⟨rfl, Ext.refl _, fun i x p h => by omega⟩ ?_
  rintro i st H3 next hi ⟨rfl, hx3, hE⟩ hnext
  dsimp only
  by_cases hl : i < l.length
  · obtain ⟨x, hx⟩ := get_of hl
    have ei : IntKind.i64.wrap ((i : Int) + 1) = ((i + 1 : Nat) : Int) := by rw [wrap_id (by omega) (by omega)]; rfl
    have ess := stmt_step hok (t := t) hx
    refine cndT (decide_eq_true (by omega)) (jn_intro (fun J => ∀ s H', Ext H H' → s = stmtM (l.take (i + 1)) t → EachP l t (i + 1) → J s H') (fun s H' a1 a2 a3 => ⟨rfl, hnext _ _ hl ⟨by rw [ei, a2], a1, a3⟩⟩) fun J hJ => ⟨by omega, by omega, rd_ev (hA.ext hx3) hx fun q o _ k1 k2 k3 k4 k5 => ⟨x.op, by simpa using k1, x.txn, by simpa using k2, x.item, by simpa using k3, x.frm, by simpa using k4, x.stmt, by simpa using k5, ?_⟩⟩)
    refine jn_intro (fun J12 => ∀ b, b = !(opOf t x && !(x.stmt == stmtM (l.take i) t)) → J12 b) (fun b hb => cndI (fun hbt => ?_) fun hbf => ?_) fun J12 h12 => ?_
    · rw [hbt] at hb
      have hno : ¬ FirstAt l t i x := fun hf => by
        have := (first_iff hok hx hf.2.1).2 hf
        rw [hf.2.1] at hb
        simp [this] at hb
      refine hJ _ H3 hx3 ?_ fun j y p hj hf hp => ?_
      · rw [ess]
        cases ho : opOf t x with
        | true =>
          rw [ho] at hb
          simp at hb
          simp [hb]
        | false => rfl
      · by_cases e : j = i
        · subst e
          have := hf.1
          rw [hx] at this; cases this
          exact absurd hf hno
        · exact hE j y p (by omega) hf hp
    · rw [hbf] at hb
      have hb := not_f hb
      simp only [Bool.and_eq_true, Bool.not_eq_true', beq_eq_false_iff_ne, ne_eq] at hb
      obtain ⟨ho, hne⟩ := hb
      have hf := (first_iff hok hx ho).1 hne
      obtain ⟨p, hp⟩ := op_prev hok hx ho
      refine c110 (B.ext hx3) hok hs hf hp fun H14 x14 => ⟨_, rfl, cndI (fun h => ?_) fun h => hJ _ H14 (hx3.trans x14) (by rw [ess, ho]; rfl) fun j y p' hj hf' hp' => ?_⟩
      · have : eachB l t = false := by
          rw [← Bool.not_eq_true, each_iff hok hc]
          intro hh
          rw [hh i x p hl hf hp] at h
          cases h
        rw [this] at hq
        exact hq H14 (hx3.trans x14)
      · by_cases e : j = i
        · subst e
          have := hf'.1
          rw [hx] at this; cases this
          rw [prev_one hp' hp]
          simpa using h
        · exact hE j y p' (by omega) hf' hp'
    · have eo : opOf t x = ((x.txn == t) && (x.op == 2 || x.op == 3)) := rfl
      rw [eo] at h12
      refine cndI (fun g1 => h12 _ ?_) fun g1 => cndI (fun g2 => cndI (fun g3 => h12 _ ?_) fun g3 => h12 _ ?_) fun g2 => h12 _ ?_ <;> unfold bne at g1
      · have : (x.txn == t) = false := by simpa using g1
        rw [this]; rfl
      · unfold bne at g2 g3
        have e2 : (x.op == 2) = false := by simpa using g2
        have e3 : (x.op == 3) = false := by simpa using g3
        rw [e2, e3]; simp
      · unfold bne at g2 g3
        have e1 : (x.txn == t) = true := by simpa using g1
        have e3 : (x.op == 3) = true := by simpa using g3
        rw [e1, e3]; simp
      · unfold bne at g2
        have e1 : (x.txn == t) = true := by simpa using g1
        have e2 : (x.op == 2) = true := by simpa using g2
        rw [e1, e2]; simp
  · obtain rfl : i = l.length := by omega
    rw [(each_iff hok hc).2 hE] at hq
    exact cndF (decide_eq_false (by omega)) (hq H3 hx3)
theorem c67 {S : Option Addr} {ns cs : Nat} {T T' : List Int} {all : Bool} (B : HisAt H g ga A n c l) (hok : OkTo l l.length) (hs : l.length ≤ 2000) (hS : SlAt inC H S ns T) (hT : ∀ t, comB l t = true → (T'.any fun y => t == y) = (all || T.any fun y => y == t)) (hq : ∀ H', Ext H H' → Q (.bool (fitsM l T')) H') :
    HCalls Tryz.prog 67 [.pointer (some ⟨g, 0, none⟩), .bool all, .slice S ns cs] H Q := by
  refine f67.ok _ _ _ _ _ _ ?_
  unfold f67
  refine c65 B fun A3 c3 H2 x2 R2 => ⟨_, _, _, rfl, ?_⟩
  have hdl : (doneM l).length ≤ 201 := doneTo_len
  have S2 := R2.at (by unfold big; omega)
  refine scan (n := (doneM l).length) (by omega) (fun i H' => Ext H2 H' ∧ ∀ (j : Nat) (t : Int), j < i → (doneM l)[j]? = some t → okT l T' t = true) ⟨Ext.refl _, fun j t h => by omega⟩ (fun i H5 next hi hI hnext => ?_) (fun H5 next hI => ?_)
  · obtain ⟨hx5, hall⟩ := hI
    dsimp only
    obtain ⟨t, ht⟩ := get_of hi
    have hc := (done_mem hok).1 (List.mem_of_getElem? ht)
    have B5 := B.ext (x2.trans hx5)
    refine cndT (decide_eq_true (by omega)) ⟨by omega, by omega, rd_in (S2.ext hx5) ht fun q o _ k1 => ⟨t, by simpa using k1, ?_⟩⟩
    refine jn_intro (fun J23 => ∀ b H', Ext H5 H' → b = okT l T' t → J23 b H') (fun b H' hx' hb => cndI (fun h => ?_) fun h => ⟨rfl, hnext H' ⟨hx5.trans hx', fun j u hj hu => ?_⟩⟩) fun J23 h23 => ?_
    · have hf : okT l T' t = false := by rw [← hb]; simpa using h
      have : fitsM l T' = false := by
        rw [← Bool.not_eq_true, fitsM_iff]
        intro hh
        rw [hh t hc] at hf; cases hf
      rw [this] at hq
      exact hq H' ((x2.trans hx5).trans hx')
    · by_cases e : j = i
      · subst e; rw [ht] at hu; cases hu
        rw [← hb]; simpa using h
      · exact hall j u (by omega) hu
    · refine jn_intro (fun J14 => ∀ b, b = (all || T.any fun y => y == t) → J14 b H5) (fun b hb => ?_) fun J14 h14 => cndI (fun h => h14 _ (by rw [h]; rfl)) fun h => c57 (hS.ext (x2.trans hx5)) ⟨_, rfl, h14 _ (by rw [h]; rfl)⟩
      rw [← hT t hc] at hb
      unfold okT at h23
      rw [← hb] at h23
      refine cndI (fun h => ?_) fun h => ?_
      · rw [h, if_pos rfl] at h23
        exact c95 B5 hok hs hc fun H16 x16 => ⟨_, rfl, h23 _ H16 x16 rfl⟩
      · rw [h, if_neg (by decide)] at h23
        exact c96 B5 hok hs hc fun H16 x16 => ⟨_, rfl, h23 _ H16 x16 rfl⟩
  · obtain ⟨hx5, hall⟩ := hI
    dsimp only
    have : fitsM l T' = true := fitsM_iff.2 fun t hc => by
      obtain ⟨j, hj⟩ := List.getElem?_of_mem ((done_mem hok).2 hc)
      exact hall j t (List.getElem?_eq_some_iff.1 hj).1 hj
    rw [this] at hq
    exact cndF (decide_eq_false (by omega)) (hq H5 (x2.trans hx5))
theorem c28 {S : Option Addr} {ns cs : Nat} {some_ : List Int} (hA : SlAt evC H A n l) (hcp : n ≤ c) (hS : SlAt inC H S ns some_) (hq : FitsQ H Q l some_) : HCalls Tryz.prog 28 [.slice A n c, .slice S ns cs] H Q := by
  refine f28.ok _ _ _ _ _ _ ?_
  unfold f28
  refine c21 hA fun H2 x2 => ⟨_, rfl, ?_⟩
  unfold FitsQ at hq
  cases hv : validM l with
  | false =>
    rw [hv] at hq
    exact cndT rfl (hq H2 x2)
  | true =>
  rw [hv] at hq
  obtain ⟨hok, hlen⟩ := valid_ok hv
  refine cndF rfl (c54 (hA.ext x2) hcp hok fun g ga H5 x5 B => ⟨_, rfl, c67 (T' := some_) B hok hlen ((hS.ext x2).ext x5) (fun t _ => ?_) fun H8 x8 => ⟨_, rfl, hq H8 ((x2.trans x5).trans x8)⟩⟩)
  rw [Bool.false_or]
  congr 1
  funext y
  rw [Bool.eq_iff_iff, beq_iff_eq, beq_iff_eq]
  exact eq_comm
theorem c27 (hA : SlAt evC H A n l) (hcp : n ≤ c) (hq : FitsQ H Q l all200) : HCalls Tryz.prog 27 [.slice A n c] H Q := by
  refine f27.ok _ _ _ ?_
  unfold f27
  refine c21 hA fun H2 x2 => ⟨_, rfl, ?_⟩
  unfold FitsQ at hq
  cases hv : validM l with
  | false =>
    rw [hv] at hq
    exact cndT rfl (hq H2 x2)
  | true =>
  rw [hv] at hq
  obtain ⟨hok, hlen⟩ := valid_ok hv
  refine cndF rfl (c54 (hA.ext x2) hcp hok fun g ga H5 x5 B => ⟨_, rfl, c67 (T := []) (T' := all200) B hok hlen ⟨rfl, .inl rfl, by decide⟩ (fun t hc => ?_) fun H8 x8 => ⟨_, rfl, hq H8 ((x2.trans x5).trans x8)⟩⟩)
  rw [in_all200, Bool.true_or]
  have := com_in hok hc
  unfold inB
  simp [this]
theorem c26 (hA : SlAt evC H A n l) (hcp : n ≤ c) (hq : FitsQ H Q l []) : HCalls Tryz.prog 26 [.slice A n c] H Q := by
  refine f26.ok _ _ _ ?_
  unfold f26
  exact c28 hA hcp ⟨rfl, .inl rfl, by decide⟩ fun H' hx => ⟨_, _, rfl, hq H' hx⟩
end
end Go.Proofs.YtibhpoikhkokiaaGreat.Hw

/- The document's Order (c30). -/
set_option linter.unusedVariables false
set_option linter.unusedSimpArgs false
set_option linter.unusedSectionVars false
set_option maxRecDepth 20000
namespace Go.Proofs.YtibhpoikhkokiaaGreat.Hw
open Go Go.Proofs
theorem sort_strict {L : List Int} (h : Strict L) : sortM L = L := strict_one (strict_sort (strict_nodup h)) h fun x => sortM_mem
theorem out_at {L : List Int} {k : Nat} {t : Int} (h : Strict L) (hk : L[k]? = some t) : takeOut L t = L.take k ++ L.drop (k + 1) := by
  have hlt := (List.getElem?_eq_some_iff.1 hk).1
  have e : L = L.take k ++ t :: L.drop (k + 1) := by
    have hd : L.drop k = t :: L.drop (k + 1) := by rw [List.drop_eq_getElem_cons hlt, (List.getElem?_eq_some_iff.1 hk).2]
    rw [← hd, List.take_append_drop]
  have hn := strict_nodup h
  have hsub : (L.take k ++ L.drop (k + 1)).Sublist L := by
    conv => rhs; rw [e]
    exact List.Sublist.append_left (List.sublist_cons_self _ _) _
  refine strict_one (List.Pairwise.filter _ h) (List.Pairwise.sublist hsub h) fun x => ?_
  unfold takeOut
  rw [List.mem_filter, decide_eq_true_eq]
  rw [e] at hn
  obtain ⟨n1, n2, n3⟩ := List.nodup_append.1 hn
  obtain ⟨n4, n5⟩ := List.nodup_cons.1 n2
  conv => lhs; rw [e]
  rw [List.mem_append, List.mem_append, List.mem_cons]
  constructor
  · rintro ⟨h1 | h1 | h1, h2⟩
    · exact .inl h1
    · exact absurd h1 h2
    · exact .inr h1
  · rintro (h1 | h1)
    · exact ⟨.inl h1, n3 x h1 t List.mem_cons_self⟩
    · exact ⟨.inr (.inr h1), fun e => n4 (e ▸ h1)⟩
theorem SlAt.stay {α : Type} {f : α → List Value} {H H' : Hp} {A : Option Addr} {n : Nat} {l : List α} (h : SlAt f H A n l) (hk : ∀ b, rowB A b → H b ≠ none → H' b = H b) : SlAt f H' A n l := ⟨h.len, by
  rcases h.cells with h1 | ⟨b, o, hA, hc⟩
  · exact .inl h1
  · refine .inr ⟨b, o, hA, fun j v hj => ?_⟩
    have h1 := hc j v hj
    have hn : H b ≠ none := fun e => by unfold cl at h1; rw [e] at h1; cases h1
    unfold cl at h1 ⊢
    rw [hk b ⟨o, none, hA⟩ hn]; exact h1, h.small⟩
theorem SlAt.live {α : Type} {f : α → List Value} {k : Nat} {H : Hp} {A : Option Addr} {n b : Nat} {l : List α} (hf : ∀ x, (f x).length = k) (hk : 0 < k) (h : SlAt f H A n l) (hl : l ≠ []) (hb : rowB A b) : H b ≠ none := by
  rcases h.cells with h1 | ⟨b', o, hA, hc⟩
  · exact absurd h1 (flat_ne (fun x _ => hf x) hk hl)
  · obtain ⟨o', q', hA'⟩ := hb
    rw [hA] at hA'; cases hA'
    cases hv : (l.flatMap f)[0]? with
    | none =>
      have := flat_length (l := l) (fun x _ => hf x)
      have hlp := List.length_pos_iff.2 hl
      have : 0 < (l.flatMap f).length := by rw [this]; exact Nat.mul_pos hlp hk
      rw [List.getElem?_eq_none_iff] at hv; omega
    | some v =>
      have := hc 0 v hv
      intro e
      unfold cl at this; rw [e] at this; cases this
section
variable {H H' H0 : Hp} {Q : Value → Hp → Prop} {A : Option Addr} {n c : Nat} {l : List Ev}
/-- append to a slice that is full: a new block. -/
theorem appendF_slx {α : Type} {f : α → List Value} {k ty eby : Nat} (hf : ∀ x, (f x).length = k) (ho : ∀ x, ∀ v ∈ f x, v.oneCell' = true) (he : eby ≤ 100) {A B : Option Addr} {n c m : Nat} {l r : List α} {K : Option Addr → Nat → Nat → Hp → Prop}
    (hA : SlAt f H A n l) (hB : SlAt f H B m r) (hcap : c < n + m ∨ m = 0) (hnc : n ≤ c) (hsz : n + m < big) (hk : ∀ A' c' H', Ext H H' → SlAt f H' A' (n + m) (l ++ r) → n + m ≤ c' → (∀ b, rowB A' b → rowB A b ∨ H b = none) → K A' (n + m) c' H') : appendF H ty k eby A n c B m K := by
  have hl := hA.len
  have hr := hB.len
  have hmul : (n + m) * eby ≤ 140737488355328 := by
    have : (n + m) * eby ≤ (n + m) * 100 := Nat.mul_le_mul_left _ he
    unfold big at hsz; omega
  have hbh : n + m < huge := by unfold big at hsz; unfold huge; omega
  refine ⟨hmul, by unfold big at hsz; omega, r.flatMap f, by rw [flat_length (fun x _ => hf x), hr], hB.cells, fun v hv => by obtain ⟨x, _, hx⟩ := List.mem_flatMap.1 hv; exact ho x v hx, fun hle => ⟨fun h0 => ?_, fun hpos => by omega⟩, fun hlt => ⟨l.flatMap f, by rw [flat_length (fun x _ => hf x), hl], hA.cells, fun b cap rest hb h1 h2 h3 => ?_⟩⟩
  · subst h0
    have : r = [] := List.eq_nil_of_length_eq_zero hr.symm
    subst this
    have := hk A c H (Ext.refl _) (by rw [List.append_nil]; exact hA) (by omega) (fun b hb => .inl hb)
    exact this
  · refine hk _ _ _ (Ext.new hb) ⟨by rw [List.length_append]; omega, .inr ⟨b, 0, rfl, fun j v hj => ?_⟩, by rw [List.length_append]; omega⟩ h1 (fun b' ⟨o, q, h⟩ => by cases h; exact .inr hb)
    rw [cl_cells upd_at, Nat.zero_add]
    rw [List.flatMap_append] at hj
    rw [List.getElem?_append_left (List.getElem?_eq_some_iff.1 hj).1]; exact hj
def freeB (rs : List Arc) (out : List Int) (t : Int) (x : Arc) : Bool := (x.b != t) || out.any fun y => y == x.a
set_option maxHeartbeats 1000000 in
theorem c30 (hA : SlAt evC H A n l) (hcp : n ≤ c) (hq : OrderQ H Q l) : HCalls Tryz.prog 30 [.slice A n c] H Q := by
  refine f30.ok _ _ _ ?_
  unfold f30
  obtain ⟨q1, q2, q3⟩ := hq
  refine c21 hA fun H2 x2 => ⟨_, rfl, ?_⟩
  cases hv : validM l with
  | false => exact cndT rfl (q1 hv H2 x2)
  | true =>
  obtain ⟨hok, hlen⟩ := valid_ok hv
  refine cndF rfl (c54 (hA.ext x2) hcp hok fun g ga H5 x5 B => ⟨_, rfl, c55a B hok hlen fun A9 c9 rs H8 x8 ha hrl S9 hc9 => ⟨_, _, _, rfl, ?_⟩⟩)
  have B8 := B.ext x8
  have hx8 : Ext H H8 := (x2.trans x5).trans x8
  refine jn_intro (fun J => ∀ bb, bb = (abTo l l.length || btTo l l.length) → J bb H8) (fun bb hbb => cndI (fun ht => q2 hv (by rw [← hbb, ht]) H8 hx8) fun hf => ?_) fun J hJ => c58 B8 hok ⟨_, rfl, cndI (fun h => hJ _ (by rw [h]; rfl)) fun h => c59 B8 hok ⟨_, rfl, hJ _ (by rw [h]; rfl)⟩⟩
  obtain ⟨q4, q5⟩ := q3 hv (by rw [← hbb, hf]) rs ha
  refine c65 B8 fun A21 c21' H20 x20 R21 => ⟨_, _, _, rfl, ?_⟩
  have hdl : (doneM l).length ≤ 201 := doneTo_len
  have hsame : SameEl (doneM l) (comL l) := ⟨strict_nodup strict_done, comL_nodup rfl hok, fun x => by rw [done_mem hok, comL_mem]⟩
  have hordeq : orderM rs (doneM l).length (doneM l) [] = orderM rs (comL l).length (comL l) [] := by
    rw [hsame.perm.length_eq]; exact order_same hsame
  have hx20 := hx8.trans x20
  have S21 : SlAt inC H20 A21 (doneM l).length (doneM l) := R21.at (by unfold big; omega)
  have hA20 := S9.ext x20
  have hcomA : ∀ x ∈ rs, x.a ∈ doneM l := fun x hx => (done_mem hok).2 (arc_iff.1 ((ha.2 x).1 hx)).2.1
  refine loop_to (doneM l).length (fun i st H' => ∃ A1 c1 L S cS out, st = (((A1, L.length, c1), ((S, out.length, cS), ())), ()) ∧ Ext H20 H' ∧ SlAt inC H' A1 L.length L ∧ L.length ≤ c1 ∧ Strict L ∧ L.length + i = (doneM l).length ∧ RowI H20 H' S cS out ∧ out.length = i ∧ (∀ x, x ∈ doneM l ↔ x ∈ L ∨ x ∈ out) ∧ (∀ x ∈ out, x ∉ L) ∧ (∀ b, rowB A1 b → ¬ rowB S b) ∧ orderM rs L.length L out = orderM rs (comL l).length (comL l) [])
    ⟨A21, c21', doneM l, none, 0, [], rfl, Ext.refl _, S21, R21.2.1, strict_done, rfl, Row.nil, rfl, fun x => by simp, fun x h => (by cases h), fun b _ ⟨_, _, h⟩ => (by cases h), hordeq⟩ ?_
  rintro i st H23 next hi ⟨A1, c1, L, S, cS, out, rfl, hx23, S1, hc1, hstL, hLl, R23, hol, hmem, hdis, hsep, hord⟩ hnext
  dsimp only
  by_cases hL : L = []
  · subst hL
    refine cndF (by simp) ?_
    rw [order_end rfl] at hord
    exact q5 out hord.symm S cS H23 (hx20.trans hx23) (R23.at (by unfold big; omega)) R23.2.1
  have hLp : 0 < L.length := List.length_pos_iff.2 hL
  have hsort := sort_strict hstL
  have hfr : ∀ t, fr1 rs L t = rs.all (freeB rs out t) := fun t => by
    unfold fr1
    rw [Bool.eq_iff_iff, Bool.not_eq_true', List.any_eq_false, List.all_eq_true]
    refine ⟨fun h x hx => ?_, fun h x hx => ?_⟩
    · have := h x hx
      unfold freeB
      cases hb : x.b == t with
      | false => simp only [bne, hb]; rfl
      | true =>
        rw [hb, Bool.true_and, List.contains_iff_mem] at this
        rw [Bool.or_eq_true]
        right
        rcases (hmem x.a).1 (hcomA x hx) with h2 | h2
        · exact absurd h2 this
        · exact List.any_eq_true.2 ⟨_, h2, by simp⟩
    · have := h x hx
      unfold freeB at this
      cases hb : x.b == t with
      | false => simp
      | true =>
        rw [Bool.true_and, List.contains_iff_mem]
        simp only [bne, hb, Bool.not_true, Bool.false_or] at this
        obtain ⟨y, hy, hya⟩ := List.any_eq_true.1 this
        have : y = x.a := by simpa using hya
        rw [← this]; exact hdis y hy
  have So := R23.at (by unfold big; omega)
  have S9' := hA20.ext hx23
  refine cndT (decide_eq_true (by omega)) ?_
  refine loop_to L.length (fun j st H' => ∃ at_ : Int, st = ((at_, ((j : Int), ())), ()) ∧ H' = H23 ∧ ((at_ = -1 ∧ ∀ (k : Nat) u, k < j → L[k]? = some u → fr1 rs L u = false) ∨ ∃ (k : Nat) (t : Int), k < j ∧ at_ = (k : Int) ∧ L[k]? = some t ∧ fr1 rs L t = true ∧ ∀ (k' : Nat) u, k' < k → L[k']? = some u → fr1 rs L u = false)) ⟨-1, rfl, rfl, .inl ⟨rfl, fun k u h => by omega⟩⟩ ?_
  rintro j st H26 next27 hj ⟨at_, rfl, rfl, hat⟩ hnext27
  dsimp only
  by_cases hjl : j < L.length
  · obtain ⟨t, ht⟩ := get_of hjl
    have ej : IntKind.i64.wrap ((j : Int) + 1) = ((j + 1 : Nat) : Int) := by rw [wrap_id (by omega) (by omega)]; rfl
    refine cndT (decide_eq_true (by omega)) (jn_intro (fun J52 => ((fr1 rs L t = true ∧ at_ < 0) → J52 (j : Int) H26) ∧ (¬ (fr1 rs L t = true ∧ at_ < 0) → J52 at_ H26)) ⟨fun h => ⟨rfl, hnext27 _ _ hjl ⟨(j : Int), by rw [ej], rfl, .inr ⟨j, t, by omega, rfl, ht, h.1, ?_⟩⟩⟩, fun h => ⟨rfl, hnext27 _ _ hjl ⟨at_, by rw [ej], rfl, ?_⟩⟩⟩ fun J52 h52 => ⟨by omega, by omega, rd_in S1 ht fun q o _ k1 => ⟨t, by simpa using k1, ?_⟩⟩)
    · rcases hat with ⟨_, h2⟩ | ⟨k, t', _, h2, _⟩
      · exact h2
      · omega
    · rcases hat with ⟨h1, h2⟩ | ⟨k, t', h1, h2⟩
      · refine .inl ⟨h1, fun k u hk hu => ?_⟩
        by_cases e : k = j
        · subst e; rw [ht] at hu; cases hu
          cases hf : fr1 rs L t with
          | false => rfl
          | true => exact absurd ⟨hf, by omega⟩ h
        · exact h2 k u (by omega) hu
      · exact .inr ⟨k, t', by omega, h2⟩
    refine loop_to rs.length (fun k st H' => st = (((rs.take k).all (freeB rs out t), ((k : Int), ())), ()) ∧ H' = H26) ⟨by simp, rfl⟩ ?_
    rintro k st H31 next32 hk ⟨rfl, rfl⟩ hnext32
    dsimp only
    by_cases hkl : k < rs.length
    · obtain ⟨x, hx⟩ := get_of hkl
      have ek : IntKind.i64.wrap ((k : Int) + 1) = ((k + 1 : Nat) : Int) := by rw [wrap_id (by omega) (by omega)]; rfl
      refine cndT (decide_eq_true (by omega)) (jn_intro (fun J => ∀ b a1 a2 a3 a4, b = ((rs.take k).all (freeB rs out t) && freeB rs out t x) → J b a1 a2 a3 a4 H31) (fun b a1 a2 a3 a4 hb => ⟨rfl, hnext32 _ _ hkl ⟨by rw [ek, all_take_succ hx, hb], rfl⟩⟩) fun J hJ => ⟨by omega, by omega, rd_ar S9' hx fun q o _ k1 k2 k3 k4 => ⟨x.a, by simpa using k1, x.b, by simpa using k2, x.kind, by simpa using k3, x.item, by simpa using k4, ?_⟩⟩)
      refine cndI (fun h => cndI (fun h2 => hJ _ _ _ _ _ ?_) fun h2 => c57 So ⟨_, rfl, hJ _ _ _ _ _ ?_⟩) fun h => hJ _ _ _ _ _ ?_
      · unfold freeB at h ⊢
        rw [h, h2]; rfl
      · unfold freeB at h ⊢
        rw [h, h2]; rfl
      · rw [h]; rfl
    · obtain rfl : k = rs.length := by omega
      rw [List.take_length, ← hfr t]
      refine cndF (decide_eq_false (by omega)) ?_
      refine jn_intro (fun J49 => ∀ b, b = (fr1 rs L t && decide (at_ < 0)) → J49 b) (fun b hb => cndI (fun h => h52.1 ?_) fun h => h52.2 ?_) fun J49 h49 => cndI (fun h => h49 _ (by rw [h]; rfl)) fun h => h49 _ (by rw [h]; rfl)
      · rw [h] at hb
        have hb := hb.symm
        rwa [Bool.and_eq_true, decide_eq_true_eq] at hb
      · rw [h] at hb
        rintro ⟨h1, h2⟩
        rw [h1, decide_eq_true h2] at hb
        cases hb
  obtain rfl : j = L.length := by omega
  refine cndF (decide_eq_false (by omega)) ?_
  have hunf : orderM rs L.length L out = match freeM rs L with | none => none | some t => orderM rs (L.length - 1) (takeOut L t) (out ++ [t]) := by
    obtain ⟨m, hm⟩ : ∃ m, L.length = m + 1 := ⟨L.length - 1, by omega⟩
    rw [hm, Nat.add_sub_cancel]
    conv => lhs; unfold orderM
    rw [if_neg (by rw [List.isEmpty_iff]; exact hL)]
    cases freeM rs L <;> rfl
  rcases hat with ⟨rfl, hno⟩ | ⟨k, t, hkl, rfl, hkt, hft, hbef⟩
  · refine cndT rfl (q4 ?_ H26 (hx20.trans hx23))
    have : freeM rs L = none := by
      unfold freeM
      rw [hsort]
      exact find_no fun k u hu => hno k u (List.getElem?_eq_some_iff.1 hu).1 hu
    rw [← hord, hunf, this]
  · have hfree : freeM rs L = some t := by
      unfold freeM
      rw [hsort]
      exact find_at hkt hft hbef
    rw [hfree] at hunf
    simp only at hunf
    have htL : t ∈ L := List.mem_of_getElem? hkt
    have hto := out_at hstL hkt
    have htl := takeOut_len (strict_nodup hstL) htL
    have ek : IntKind.i64.wrap ((k : Int) + 1) = ((k + 1 : Nat) : Int) := by rw [wrap_id (by omega) (by omega)]; rfl
    refine cndF (decide_eq_false (by omega)) ⟨by omega, by omega, rd_in S1 hkt fun q o _ k1 => ⟨t, by simpa using k1, fun g55 hg55 => ?_⟩⟩
    refine Row.push1 (w := t) (f := inC) (k := 1) (ty := 3) (fun _ => rfl) (fun y v hv => by obtain rfl := List.mem_singleton.1 hv; rfl) (by omega) R23 hx23 (by unfold big; omega) hg55 fun A57 c57' H58 R58 x58 ch58 nw58 => ?_
    -- what was left is still there
    have S58 : SlAt inC H58 A1 L.length L := S1.stay fun b hb hn => Classical.byContradiction fun hne => by
      rcases ch58 b hne with h | h
      · exact hsep b hb h
      · exact hn h
    have R58 : RowI H20 H58 A57 c57' (out ++ [t]) := R58
    have hlive : ∀ b, rowB A1 b → H26 b ≠ none := fun b hb => SlAt.live (f := inC) (k := 1) (fun _ => rfl) Nat.one_pos S1 hL hb
    rw [ek]
    refine ⟨by omega, by omega, by omega, by omega, by omega, by omega, ?_⟩
    rw [Int.toNat_natCast, Int.toNat_natCast]
    have hhd := SlAt.cut (k := 1) (p := 0) (m := k) (fun _ => rfl) S58 hc1 (by omega)
    rw [List.drop_zero, cut_zero] at hhd
    have hcut := SlAt.cut (k := 1) (p := k + 1) (m := L.length - (k + 1)) (fun _ => rfl) S58 hc1 (by omega)
    rw [List.take_of_length_le (by rw [List.length_drop]; omega)] at hcut
    rw [cut_zero, Nat.sub_zero]
    refine appendF_slx (f := inC) (k := 1) (ty := 3) (eby := 8) (n := k) (c := k) (m := L.length - (k + 1)) (fun _ => rfl) (fun x v hv => by obtain rfl := List.mem_singleton.1 hv; rfl) (by omega) hhd hcut (by omega) (Nat.le_refl _) (by unfold big; omega) fun A59 c59' H60 x60 S60 hc60 hb60 => ?_
    rw [← hto] at S60
    have hnl : k + (L.length - (k + 1)) = (takeOut L t).length := by omega
    rw [hnl] at S60 hc60 ⊢
    refine ⟨rfl, hnext _ _ (by omega) ⟨A59, c59', takeOut L t, A57, c57', out ++ [t], rfl, x58.trans x60, S60, hc60, List.Pairwise.filter _ hstL, by omega, R58.more x60, by simp; omega, fun x => ?_, fun x hx => ?_, fun b h59 h57 => ?_, ?_⟩⟩
    · rw [hmem, List.mem_append, List.mem_singleton]
      unfold takeOut
      rw [List.mem_filter, decide_eq_true_eq]
      constructor
      · rintro (h | h)
        · by_cases e : x = t
          · exact .inr (.inr e)
          · exact .inl ⟨h, e⟩
        · exact .inr (.inl h)
      · rintro (h | h | h)
        · exact .inl h.1
        · exact .inr h
        · exact .inl (h ▸ htL)
    · unfold takeOut
      rw [List.mem_filter, decide_eq_true_eq]
      rintro ⟨h1, h2⟩
      rcases List.mem_append.1 hx with hx | hx
      · exact hdis x hx h1
      · exact h2 (List.mem_singleton.1 hx)
    · rcases hb60 b h59 with h | h
      · rcases nw58 b h57 with h' | h'
        · exact hsep b h h'
        · exact hlive b h h'
      · exact (Row.lt R58 h57).1 h
    · rw [← hord, hunf, show L.length - 1 = (takeOut L t).length by omega]
end
end Go.Proofs.YtibhpoikhkokiaaGreat.Hw

/- HistoryFits walked (c6). -/
set_option linter.unusedVariables false
set_option linter.unusedSimpArgs false
set_option linter.unusedSectionVars false
set_option maxRecDepth 20000
namespace Go.Proofs.YtibhpoikhkokiaaGreat.Hw
open Go Go.Proofs
section
variable {H H' H0 : Hp} {Q : Value → Hp → Prop} {A : Option Addr} {n c : Nat} {l : List Ev}
theorem nilSl {α : Type} {f : α → List Value} (X : Hp) : SlAt f X none 0 ([] : List α) := ⟨rfl, .inl rfl, by simp [huge]⟩
theorem two_same {b : Bool} {k : Int} {J : Bool → Prop} (h : J false) : cnd (!(b == b)) (J true) (J (k != k)) := by
  refine cndF (by simp) ?_
  rw [show (k != k) = false by simp]; exact h
theorem c6 {S : Option Addr} {ns cs : Nat} {T : List Int} (hA : SlAt evC H A n l) (hc : n ≤ c) (hS : SlAt inC H S ns T) (hq : ∀ H', Ext H H' → Q (.bool true) H') : HCalls Tryz.prog 6 [.slice A n c, .slice S ns cs] H Q := by
  refine f6.ok _ _ _ _ _ _ ?_
  unfold f6
  refine jn_intro (fun J => ∀ b, J b H) (fun b => ?_) fun J hJ => c10 ⟨_, rfl, cndI (fun _ => hJ _) fun _ => hJ _⟩
  refine cndI (fun _ => c11 fun H8 x8 => ⟨_, rfl, hq H8 x8⟩) fun _ => ?_
  refine c16 hA hc fun H11 x11 => ⟨_, _, rfl, c26 (hA.ext x11) hc fun H15 x15 => ⟨_, _, rfl, ?_⟩⟩
  have x015 := x11.trans x15
  refine jn_intro (fun J => J false) (cndF rfl ?_) fun J19 h19 => two_same h19
  refine c17 (hA.ext x015) hc fun H21 x21 => ⟨_, _, rfl, c27 ((hA.ext x015).ext x21) hc fun H25 x25 => ⟨_, _, rfl, ?_⟩⟩
  have x025 := (x015.trans x21).trans x25
  refine jn_intro (fun J => J false) (cndF rfl ?_) fun J29 h29 => two_same h29
  refine c12 (hA.ext x025) hc (hS.ext x025) fun H31 x31 => ⟨_, _, rfl, c28 ((hA.ext x025).ext x31) hc ((hS.ext x025).ext x31) fun H35 x35 => ⟨_, _, rfl, ?_⟩⟩
  have x035 := (x025.trans x31).trans x35
  refine jn_intro (fun J => J false) (cndF rfl ?_) fun J39 h39 => two_same h39
  have hA35 := hA.ext x035
  have fin : ∀ {H41 H46 : Hp} {J : Bool → Hp → Prop}, Ext H35 H41 → Ext H41 H46 → (∀ H', Ext H46 H' → J true H') → HCalls Tryz.prog 11 [] H46 (fun v53 H54 => ∃ x55 : Bool, v53 = .bool x55 ∧ J x55 H54) := fun x41 x46 h => c11 fun H54 x54 => ⟨_, rfl, h H54 x54⟩
  cases hv : validM l with
  | false =>
    have no : ∀ {P : Prop}, validM l = true → P := fun h => by rw [hv] at h; cases h
    refine c29 hA35 hc ⟨fun _ H41 x41 => ⟨_, _, _, _, _, rfl, ?_⟩, no, no⟩
    refine c30 (hA35.ext x41) hc ⟨fun _ H46 x46 => ⟨_, _, _, _, _, rfl, ?_⟩, no, no⟩
    exact jn_intro (fun J => ∀ H', Ext H H' → J true H') (fun H' hx => hq H' hx) fun J h => c25 (nilSl _) (nilSl _) ⟨_, rfl, cndT rfl (cndT rfl (cndT rfl (fin x41 x46 fun H' hx => h H' (((x035.trans x41).trans x46).trans hx))))⟩
  | true =>
    have no : ∀ {P : Prop}, validM l = false → P := fun h => by rw [hv] at h; cases h
    cases hb : (abTo l l.length || btTo l l.length) with
    | true =>
      have no2 : ∀ {P : Prop}, (abTo l l.length || btTo l l.length) = false → P := fun h => by rw [hb] at h; cases h
      refine c29 hA35 hc ⟨no, fun _ _ H41 x41 => ⟨_, _, _, _, _, rfl, ?_⟩, fun _ => no2⟩
      refine c30 (hA35.ext x41) hc ⟨no, fun _ _ H46 x46 => ⟨_, _, _, _, _, rfl, ?_⟩, fun _ => no2⟩
      exact jn_intro (fun J => ∀ H', Ext H H' → J true H') (fun H' hx => hq H' hx) fun J h => c25 (nilSl _) (nilSl _) ⟨_, rfl, cndT rfl (cndT rfl (cndT rfl (fin x41 x46 fun H' hx => h H' (((x035.trans x41).trans x46).trans hx))))⟩
    | false =>
      have no2 : ∀ {P : Prop}, (abTo l l.length || btTo l l.length) = true → P := fun h => by rw [hb] at h; cases h
      refine c29 hA35 hc ⟨no, fun _ => no2, fun _ _ rs ha => ⟨fun ho H41 x41 => ⟨_, _, _, _, _, rfl, ?_⟩, fun o ho A42 c42' H41 x41 S42 hc42 => ⟨_, _, _, _, _, rfl, ?_⟩⟩⟩
      · refine c30 (hA35.ext x41) hc ⟨no, fun _ => no2, fun _ _ rs2 ha2 => ⟨fun ho2 H46 x46 => ⟨_, _, _, _, _, rfl, ?_⟩, fun o ho2 => ?_⟩⟩
        · exact jn_intro (fun J => ∀ H', Ext H H' → J true H') (fun H' hx => hq H' hx) fun J h => c25 (nilSl _) (nilSl _) ⟨_, rfl, cndT rfl (cndT rfl (cndT rfl (fin x41 x46 fun H' hx => h H' (((x035.trans x41).trans x46).trans hx))))⟩
        · have := arcs_one ha ha2
          subst this
          rw [ho] at ho2; cases ho2
      · refine c30 (hA35.ext x41) hc ⟨no, fun _ => no2, fun _ _ rs2 ha2 => ⟨fun ho2 => ?_, fun o2 ho2 A47 c47' H46 x46 S47 hc47 => ⟨_, _, _, _, _, rfl, ?_⟩⟩⟩
        · have := arcs_one ha ha2
          subst this
          rw [ho] at ho2; cases ho2
        · have := arcs_one ha ha2
          subst this
          rw [ho] at ho2; cases ho2
          exact jn_intro (fun J => ∀ H', Ext H H' → J true H') (fun H' hx => hq H' hx) fun J h => c25 (S42.ext x46) S47 ⟨_, rfl, cndT (by simp) (cndT rfl (cndT (by simp) (fin x41 x46 fun H' hx => h H' (((x035.trans x41).trans x46).trans hx))))⟩
end
end Go.Proofs.YtibhpoikhkokiaaGreat.Hw

/- The row HistoryFits, proved. -/
set_option linter.unusedVariables false
set_option linter.unusedSimpArgs false
set_option maxRecDepth 100000
namespace Go.Proofs.YtibhpoikhkokiaaGreat
open Go.ChangeShapes Go.WideShapes Go.ChangeAt Go.RowKit
open Hw
theorem fits_lifted (os : Os) (started : os.Started) (H : Type) (enc : TypeId × Value → H) :
    ReturnsInHanded {} Tryz.checked os 6 .any (Rows.historyFitsSpec.pre6 enc Tryz.prog Tryz.f6 Rows.historyFitsRow.domain false) (Rows.historyFitsSpec.post enc Tryz.prog Tryz.f6 Rows.historyFitsRow.apart Rows.historyFitsRow.fresh Rows.historyFitsRow.handsOn Rows.historyFitsRow.again) := by
  refine returnsInHanded_of_change_sized (C := Tryz.checked) ownK started (by kernel_rfl) Tryz.func6
    (ChangeSpec.witness6 (enc := enc) (C := Tryz.checked) false ⟨#[], #[.slice none 0 0, .slice none 0 0], []⟩ 8 (by kernel_rfl) (by kernel_rfl) (by kernel_rfl) (by kernel_rfl)) ?_
  intro W base args ds gs before hval0 hW hcnd hsz0 _
  have hval : ∀ (j : Nat) t v, Tryz.f6.params[j]? = some t → args[j]? = some v → Value.okWide Tryz.prog W .any base t v := hval0
  have hsz : (DataW.weightsEach Tryz.prog (Tryz.f6.params.toList ++ Rows.historyFitsSpec.plain.varTypes Tryz.prog) (ds ++ gs)).all (· ≤ reachBytes) = true := hsz0
  have hW' := hW
  obtain ⟨p, q, hA0, hV, rfl, hfz, hnd⟩ := hW
  have hA : DataW.TrodAll enc Tryz.prog W 0 (fun _ => true) true Tryz.f6.params.toList args.toList ds p := hA0
  rw [Tryz.params6] at hA hval hsz
  obtain ⟨v0, v1, d0, d1, p0, p1, rfl, rfl, rfl, h0, h1⟩ := trodAll_two hA
  obtain ⟨rfl, rfl⟩ := trodVars_none hV
  have hs0 : Sz Tryz.prog 22 d0 := fun n hn => by
    have := List.all_eq_true.1 hsz n (DataW.weights_mem_each (j := 0) rfl rfl n hn)
    exact of_decide_eq_true this
  have hs1 : Sz Tryz.prog 23 d1 := fun n hn => by
    have := List.all_eq_true.1 hsz n (DataW.weights_mem_each (j := 1) rfl rfl n hn)
    exact of_decide_eq_true this
  obtain ⟨fl0, e0⟩ := h0
  obtain ⟨fl1, e1⟩ := h1
  obtain ⟨A, n, c, l, hc0, hp0, hcap⟩ := open_evs hs0 e0
  obtain ⟨S, ns, cs, T, hc1, hp1⟩ := open_nums hs1 e1
  have g0 := slice_of u22 (hval 0 22 v0 rfl rfl) hc0
  have g1 := slice_of u23 (hval 1 23 v1 rfl rfl) hc1
  subst g0
  subst g1
  have key := c6 (Q := fun v H' => v = .bool true ∧ Ext (hpOf W) H') (cs := cs) hp0 hcap hp1 (fun H' hx => ⟨rfl, hx⟩) W (fun b o h => h)
  refine Calls.mono key ?_
  rintro e W' ⟨v, H', rfl, ⟨rfl, hx⟩, hh, hf, _⟩
  refine ⟨_, rfl, post_look (f := Tryz.f6) cellsB_prog (by rw [Tryz.params6]; decide) hW' rfl rfl rfl (fun b sp hd => ?_) (fun b o h => hh b o (hx b o h)) hf.1 hf.2.2.1 ?_⟩
  · exact res_bool b sp hd true
  · exact ok_bools rfl true
theorem fits_holds : Rows.HistoryFitsSaid :=
  OpenClaim.holds_of_wide 6 Tryz.f6 rfl rfl rfl rfl rfl rfl rfl ⟨rfl, rfl, rfl, rfl, rfl⟩ rfl rfl rfl rfl rfl (by kernel_rfl) Tryz.func6 (by kernel_rfl)
    (of_decide_eq_true (by kernel_rfl)) (by unfold Func.isWrapper; first | (rw [if_pos (by decide +kernel)]; kernel_rfl) | (rw [if_neg (by decide +kernel)]; exact ⟨rfl, rfl⟩))
    (fun os started H enc _ => fits_lifted os started H enc)
end Go.Proofs.YtibhpoikhkokiaaGreat
