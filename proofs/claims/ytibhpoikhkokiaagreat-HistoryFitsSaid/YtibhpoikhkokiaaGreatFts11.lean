/- Wf Wg Wh HwFi Wi Wj HwFj Wk Vo Wl Wm HwFk (joined by merge.py) -/
import Derived.Test.YtibhpoikhkokiaaGreatFts10
import Derived.Test.YtibhpoikhkokiaaGreatFts3
import Derived.Test.YtibhpoikhkokiaaGreatFts9
/- The document's histories: all arcs (c89, c55, c19, c20). -/
set_option linter.unusedVariables false
set_option linter.unusedSimpArgs false
set_option linter.unusedSectionVars false
set_option maxRecDepth 20000
namespace Go.Proofs.YtibhpoikhkokiaaGreat.Hw
open Go Go.Proofs
section
variable {H H' H0 : Hp} {Q : Value → Hp → Prop}
/-- append to a slice that is full: a new block. -/
theorem appendF_sl {α : Type} {f : α → List Value} {k ty eby : Nat} (hf : ∀ x, (f x).length = k) (ho : ∀ x, ∀ v ∈ f x, v.oneCell' = true) (he : eby ≤ 100) {A B : Option Addr} {n c m : Nat} {l r : List α} {K : Option Addr → Nat → Nat → Hp → Prop}
    (hA : SlAt f H A n l) (hB : SlAt f H B m r) (hcap : c < n + m ∨ m = 0) (hnc : n ≤ c) (hsz : n + m < big) (hk : ∀ A' c' H', Ext H H' → SlAt f H' A' (n + m) (l ++ r) → n + m ≤ c' → K A' (n + m) c' H') : appendF H ty k eby A n c B m K := by
  have hl := hA.len
  have hr := hB.len
  have hmul : (n + m) * eby ≤ 140737488355328 := by
    have : (n + m) * eby ≤ (n + m) * 100 := Nat.mul_le_mul_left _ he
    unfold big at hsz; omega
  have hbh : n + m < huge := by unfold big at hsz; unfold huge; omega
  refine ⟨hmul, by unfold big at hsz; omega, r.flatMap f, by rw [flat_length (fun x _ => hf x), hr], hB.cells, fun v hv => by obtain ⟨x, _, hx⟩ := List.mem_flatMap.1 hv; exact ho x v hx, fun hle => ⟨fun h0 => ?_, fun hpos => by omega⟩, fun hlt => ⟨l.flatMap f, by rw [flat_length (fun x _ => hf x), hl], hA.cells, fun b cap rest hb h1 h2 h3 => ?_⟩⟩
  · subst h0
    have : r = [] := List.eq_nil_of_length_eq_zero hr.symm
    subst this
    have := hk A c H (Ext.refl _) (by rw [List.append_nil]; exact hA) (by omega)
    exact this
  · refine hk _ _ _ (Ext.new hb) ⟨by rw [List.length_append]; omega, .inr ⟨b, 0, rfl, fun j v hj => ?_⟩, by rw [List.length_append]; omega⟩ h1
    rw [cl_cells upd_at, Nat.zero_add]
    rw [List.flatMap_append] at hj
    rw [List.getElem?_append_left (List.getElem?_eq_some_iff.1 hj).1]; exact hj
def okA (x : Arc) : Prop := x.a ≠ x.b ∧ x.a ≠ 0 ∧ x.b ≠ 0
def rangeA (x : Arc) : Prop := (0 ≤ x.a ∧ x.a ≤ 200) ∧ (0 ≤ x.b ∧ x.b ≤ 200) ∧ (1 ≤ x.kind ∧ x.kind ≤ 3) ∧ (1 ≤ x.item ∧ x.item ≤ 200)
def numA (x : Arc) : Int := ((x.a * 201 + x.b) * 4 + x.kind) * 201 + x.item
theorem numA_inj {x y : Arc} (hx : rangeA x) (hy : rangeA y) (h : numA x = numA y) : x = y := by
  unfold numA at h
  obtain ⟨⟨x1, x2⟩, ⟨x3, x4⟩, ⟨x5, x6⟩, ⟨x7, x8⟩⟩ := hx
  obtain ⟨⟨y1, y2⟩, ⟨y3, y4⟩, ⟨y5, y6⟩, ⟨y7, y8⟩⟩ := hy
  cases x; cases y
  simp only at *
  congr 1 <;> omega
theorem arcs_few {out : List Arc} (h : out.Pairwise ltA) (hr : ∀ x ∈ out, rangeA x) : out.length ≤ 33000000 := by
  have h1 : (out.map numA).Nodup := by
    refine List.pairwise_map.2 (h.imp_of_mem fun {x y} hx hy hlt he => ?_)
    rw [numA_inj (hr x hx) (hr y hy) he] at hlt
    exact ltA_irrefl hlt
  have h2 := nodup_len (m := (List.range 33000000).map fun (j : Nat) => (j : Int)) h1 fun z hz => by
    obtain ⟨x, hx, rfl⟩ := List.mem_map.1 hz
    obtain ⟨⟨x1, x2⟩, ⟨x3, x4⟩, ⟨x5, x6⟩, ⟨x7, x8⟩⟩ := hr x hx
    have : 0 ≤ numA x ∧ numA x < 33000000 := by unfold numA; omega
    exact List.mem_map.2 ⟨(numA x).toNat, List.mem_range.2 (by omega), by omega⟩
  rw [List.length_map, List.length_map, List.length_range] at h2
  exact h2
/-- The arcs that have been put in. -/
structure ArcOut (H : Hp) (A : Option Addr) (n c : Nat) (out : List Arc) (P : Arc → Prop) : Prop where
  sl : SlAt arC H A n out
  cap : n ≤ c
  srt : out.Pairwise ltA
  rng : ∀ x ∈ out, rangeA x
  mem : ∀ x, x ∈ out ↔ okA x ∧ P x
theorem ArcOut.ext {A : Option Addr} {n c : Nat} {out : List Arc} {P : Arc → Prop} (O : ArcOut H A n c out P) (hx : Ext H H') : ArcOut H' A n c out P := ⟨O.sl.ext hx, O.cap, O.srt, O.rng, O.mem⟩
theorem ArcOut.congr {A : Option Addr} {n c : Nat} {out : List Arc} {P P' : Arc → Prop} (O : ArcOut H A n c out P) (h : ∀ x, P x ↔ P' x) : ArcOut H A n c out P' := ⟨O.sl, O.cap, O.srt, O.rng, fun x => (O.mem x).trans (and_congr_right fun _ => h x)⟩
theorem ltB_iff {x y : Arc} : ltB x y = true ↔ ltA x y := by classical unfold ltB; exact ⟨fun h => of_decide_eq_true h, fun h => decide_eq_true h⟩
theorem c89 {A : Option Addr} {n c : Nat} {out : List Arc} {P : Arc → Prop} {a : Arc} (O : ArcOut H A n c out P) (hr : rangeA a) (hq : ∀ A' n' c' out' H', Ext H H' → ArcOut H' A' n' c' out' (fun x => P x ∨ x = a) → Q (.slice A' n' c') H') :
    HCalls Tryz.prog 89 [.slice A n c, .agg #[.int .i64 a.a, .int .i64 a.b, .int .i64 a.kind, .int .i64 a.item]] H Q := by
  refine f89.ok _ _ _ _ _ _ _ ?_
  unfold f89
  have hA := O.sl
  obtain rfl := hA.len
  have hlt := hA.lt
  have hfew := arcs_few O.srt O.rng
  have same : (a ∈ out ∨ ¬ okA a) → ∀ X, Ext H X → Q (.slice A out.length c) X := fun h X hx => hq A _ c out X hx ⟨O.sl.ext hx, O.cap, O.srt, O.rng, fun x => ?_⟩
  rotate_left
  · rw [O.mem]
    constructor
    · rintro ⟨h1, h2⟩; exact ⟨h1, .inl h2⟩
    · rintro ⟨h1, h2 | rfl⟩
      · exact ⟨h1, h2⟩
      · rcases h with h | h
        · exact (O.mem _).1 h
        · exact absurd h1 h
  refine jn_intro (fun J => (¬ okA a → J true) ∧ (okA a → J false)) ⟨fun h => cndT rfl (same (.inr h) H (Ext.refl _)), fun hok => cndF rfl ?_⟩ fun J hJ => cndI (fun h1 => hJ.1 fun h => h.1 (by simpa using h1)) fun h1 => cndI (fun h2 => hJ.1 fun h => h.2.1 (by simpa using h2)) fun h2 => ?_
  rotate_left
  · cases h3 : a.b == 0 with
    | true => exact hJ.1 fun h => h.2.2 (by simpa using h3)
    | false => exact hJ.2 ⟨by simpa using h1, by simpa using h2, by simpa using h3⟩
  refine loop_to out.length (fun i st H' => st = ((((out.length - i : Nat) : Int), ()), ()) ∧ Ext H H' ∧ ∀ (j : Nat) (x : Arc), out.length - i ≤ j → out[j]? = some x → ltB x a = false) ⟨rfl, Ext.refl _, fun j x hj hx => by have := (List.getElem?_eq_some_iff.1 hx).1; omega⟩ ?_
  rintro i st H4 next hi ⟨rfl, hx4, hge⟩ hnext
  generalize hk : out.length - i = k at hge hnext ⊢
  have hkl : k ≤ out.length := by omega
  dsimp only
  have em : IntKind.i64.wrap ((k : Int) - 1) = (k : Int) - 1 := wrap_id (by omega) (by omega)
  refine jn_intro (fun J => ∀ (b : Bool) H', Ext H H' → (b = true → 0 < k ∧ ∀ x, out[k - 1]? = some x → ltB x a = false) → (b = false → 0 < k → ∀ x, out[k - 1]? = some x → ltB x a = true) → J b H') (fun b H15 hx15 ht hf => cndI (fun hb => ⟨rfl, hnext _ _ ?_ ⟨?_, hx15, fun j x hj hx => ?_⟩⟩) fun hb => ?_) fun J hJ => cndI (fun h0 => ?_) fun h0 => hJ false H4 hx4 (fun h => by cases h) fun _ h => by have := of_decide_eq_false h0; omega
  · obtain ⟨h0, _⟩ := ht hb; omega
  · obtain ⟨h0, _⟩ := ht hb
    rw [em]
    congr 3
    omega
  · obtain ⟨h0, h1⟩ := ht hb
    by_cases e : j = k - 1
    · subst e; exact h1 x hx
    · exact hge j x (by omega) hx
  · have hlow := hf hb
    clear ht hf
    have hA15 := hA.ext hx15
    have hpos : ∀ (j : Nat) x, j < k → out[j]? = some x → ltA x a := fun j x hj hx => by
      obtain ⟨z, hz⟩ := get_of (l := out) (i := k - 1) (by omega)
      have hza := ltB_iff.1 (hlow (by omega) z hz)
      by_cases e : j = k - 1
      · subst e; rw [hx] at hz; cases hz; exact hza
      · obtain ⟨g1, g2⟩ := List.getElem?_eq_some_iff.1 hx
        obtain ⟨g3, g4⟩ := List.getElem?_eq_some_iff.1 hz
        have := List.pairwise_iff_getElem.1 O.srt j (k - 1) g1 g3 (by omega)
        rw [g2, g4] at this
        exact ltA_trans this hza
    refine jn_intro (fun J => ∀ b, (b = true → a ∈ out) → (b = false → k < out.length → out[k]? ≠ some a) → J b) (fun b ht hf => cndI (fun hbt => same (.inl (ht hbt)) H15 hx15) fun hbf => ?_) fun J hJ => cndI (fun hkn => ?_) fun hkn => hJ false (fun h => by cases h) fun _ h => by have := of_decide_eq_false hkn; omega
    rotate_left
    · have hkn' : k < out.length := by have := of_decide_eq_true hkn; omega
      obtain ⟨z, hz⟩ := get_of hkn'
      refine ⟨by omega, by omega, rd_ar hA15 hz fun q o _ k1 k2 k3 k4 => ⟨z.a, by simpa using k1, z.b, by simpa using k2, z.kind, by simpa using k3, z.item, by simpa using k4, hJ _ (fun h => ?_) fun h _ h2 => ?_⟩⟩
      · simp only [Bool.and_eq_true, beq_iff_eq, and_true] at h
        have : z = a := by cases z; cases a; simp only at h; obtain ⟨rfl, rfl, rfl, rfl⟩ := h; rfl
        rw [← this]; exact List.mem_of_getElem? hz
      · rw [hz] at h2; cases h2
        simp at h
    · have hnk := hf hbf
      have hafter : ∀ (j : Nat) x, k ≤ j → out[j]? = some x → ltA a x := fun j x hj hx => by
        have hjl := (List.getElem?_eq_some_iff.1 hx).1
        obtain ⟨z, hz⟩ := get_of (l := out) (i := k) (by omega)
        have h1 : ¬ ltA z a := fun h => by have := hge k z (Nat.le_refl _) hz; rw [ltB_iff.2 h] at this; cases this
        have h2 : z ≠ a := fun e => hnk (by omega) (by rw [hz, e])
        have h3 : ltA a z := by
          apply Classical.byContradiction
          intro h
          exact h2 (ltA_total h1 h)
        by_cases e : j = k
        · subst e; rw [hx] at hz; cases hz; exact h3
        · obtain ⟨g1, g2⟩ := List.getElem?_eq_some_iff.1 hx
          obtain ⟨g3, g4⟩ := List.getElem?_eq_some_iff.1 hz
          have := List.pairwise_iff_getElem.1 O.srt k j g3 g1 (by omega)
          rw [g2, g4] at this
          exact ltA_trans h3 this
      have hcap := O.cap
      refine ⟨by omega, by omega, by omega, by omega, by omega, by omega, fun g24 hg24 => ?_⟩
      rw [Int.toNat_natCast]
      have s24 := fresh_sl (H := H15) (g := g24) (ty := 52) (f := arC) (l := [a]) (vs := [Value.int .i64 a.a, .int .i64 a.b, .int .i64 a.kind, .int .i64 a.item]) rfl (by unfold huge; simp)
      have x25 : Ext H15 (upd g24 (Obj.cells [Value.int .i64 a.a, .int .i64 a.b, .int .i64 a.kind, .int .i64 a.item].toArray 52 (0, 0)) H15) := Ext.new hg24
      generalize (upd g24 (Obj.cells [Value.int .i64 a.a, .int .i64 a.b, .int .i64 a.kind, .int .i64 a.item].toArray 52 (0, 0)) H15) = H25 at s24 x25 ⊢
      have hcut := SlAt.cut (k := 4) (p := k) (m := out.length - k) arC_len (hA15.ext x25) hcap (by omega)
      rw [List.take_of_length_le (by rw [List.length_drop]; omega)] at hcut
      refine appendF_sl arC_len arC_one (by omega) s24 hcut (by show 1 < 1 + _ ∨ _; omega) (Nat.le_refl _) (by show 1 + _ < big; unfold big; omega) fun A26 c26 H27 x27 s26 _ => ?_
      have hpre : SlAt arC H27 A k (out.take k) := ⟨by rw [List.length_take]; omega, by
        have := cellsAt_take (k := k * 4) ((hA15.ext x25).ext x27).cells
        rw [show (out.take k).flatMap arC = (out.flatMap arC).take (k * 4) from ?_]
        · exact this
        · have e1 : out.flatMap arC = (out.take k).flatMap arC ++ (out.drop k).flatMap arC := by rw [← List.flatMap_append, List.take_append_drop]
          rw [e1, List.take_left' (by rw [flat_length (fun x _ => arC_len x), List.length_take]; omega)], by rw [List.length_take]; unfold huge; omega⟩
      have hcut2 := SlAt.cut (k := 4) (p := 0) (m := k) (c := k) arC_len hpre (Nat.le_refl _) (by rw [List.length_take]; omega)
      rw [List.drop_zero, List.take_of_length_le (by rw [List.length_take]; omega)] at hcut2
      refine appendF_sl arC_len arC_one (by omega) hcut2 s26 (by show _ < _ + (1 + _) ∨ _; omega) (Nat.le_refl _) (by show _ + (1 + _) < big; unfold big; omega) fun A28 c28 H29 x29 s28 hc28 => ?_
      have hmem : ∀ x, x ∈ out.take k ++ ([a] ++ out.drop k) ↔ x ∈ out ∨ x = a := fun x => by
        rw [List.mem_append, List.mem_append, List.mem_singleton]
        conv => rhs; rw [← List.take_append_drop k out, List.mem_append]
        constructor
        · rintro (h | h | h)
          · exact .inl (.inl h)
          · exact .inr h
          · exact .inl (.inr h)
        · rintro ((h | h) | h)
          · exact .inl h
          · exact .inr (.inr h)
          · exact .inr (.inl h)
      refine hq A28 _ c28 _ H29 (((hx15.trans x25).trans x27).trans x29) ⟨s28, hc28, ?_, fun x hx => ?_, fun x => ?_⟩
      · rw [List.pairwise_append]
        refine ⟨O.srt.sublist (List.take_sublist _ _), ?_, fun x hx y hy => ?_⟩
        · refine List.pairwise_cons.2 ⟨fun y hy => ?_, O.srt.sublist (List.drop_sublist _ _)⟩
          obtain ⟨j, hj⟩ := List.getElem?_of_mem hy
          have hy' : y ∈ out.drop k := hy
          obtain ⟨j, hj⟩ := List.getElem?_of_mem hy'
          rw [List.getElem?_drop] at hj
          exact hafter _ y (by omega) hj
        · obtain ⟨j, hj⟩ := List.getElem?_of_mem hx
          have hjk : j < k := by
            have := (List.getElem?_eq_some_iff.1 hj).1
            rw [List.length_take] at this; omega
          rw [List.getElem?_take_of_lt hjk] at hj
          have hxa := hpos j x hjk hj
          have hy : y ∈ a :: out.drop k := hy
          rcases List.mem_cons.1 hy with rfl | hy
          · exact hxa
          · obtain ⟨m, hm⟩ := List.getElem?_of_mem hy
            rw [List.getElem?_drop] at hm
            exact ltA_trans hxa (hafter _ y (by omega) hm)
      · rcases (hmem x).1 hx with h | rfl
        · exact O.rng x h
        · exact hr
      · rw [hmem, O.mem]
        constructor
        · rintro (⟨h1, h2⟩ | rfl)
          · exact ⟨h1, .inl h2⟩
          · exact ⟨hok, .inr rfl⟩
        · rintro ⟨h1, h2 | h2⟩
          · exact .inl ⟨h1, h2⟩
          · exact .inr h2
  · have h0' : 0 < k := by have := of_decide_eq_true h0; omega
    obtain ⟨z, hz⟩ := get_of (l := out) (i := k - 1) (by omega)
    have ek : ((k : Int) - 1) = ((k - 1 : Nat) : Int) := by omega
    rw [em, ek]
    refine ⟨by omega, by omega, rd_ar (hA.ext hx4) hz fun q o _ k1 k2 k3 k4 => ⟨z.a, by simpa using k1, z.b, by simpa using k2, z.kind, by simpa using k3, z.item, by simpa using k4, c106 fun H12 x12 => ⟨_, rfl, hJ _ H12 (hx4.trans x12) (fun h => ⟨h0', fun x hx => ?_⟩) fun h _ x hx => ?_⟩⟩⟩
    · rw [hz] at hx; cases hx; simpa using h
    · rw [hz] at hx; cases hx; simpa using h
end
end Go.Proofs.YtibhpoikhkokiaaGreat.Hw

/- The document's histories: all arcs, walked (c55, c19, c20). -/
set_option linter.unusedVariables false
set_option linter.unusedSimpArgs false
set_option linter.unusedSectionVars false
set_option maxRecDepth 20000
namespace Go.Proofs.YtibhpoikhkokiaaGreat.Hw
open Go Go.Proofs
def WWp (l : List Ev) (item : Int) (n : Nat) (x : Arc) : Prop := ∃ j : Nat, j < n ∧ ∃ a b, (vv l item)[j]? = some a ∧ (vv l item)[j + 1]? = some b ∧ x = ⟨a, b, 1, item⟩
def WRp (l : List Ev) (item : Int) (i : Nat) (e : Ev) (x : Arc) : Prop := e.frm ≠ 0 ∧ comB l e.frm = true ∧ wrFrom l e.frm item i = false ∧ x = ⟨e.frm, e.txn, 2, item⟩
def RWp (l : List Ev) (item : Int) (e : Ev) (n : Nat) (x : Arc) : Prop := ∃ j : Nat, j < n ∧ ∃ b, (vv l item)[j]? = some e.frm ∧ (vv l item)[j + 1]? = some b ∧ x = ⟨e.txn, b, 3, item⟩
def RDe (l : List Ev) (item : Int) (i : Nat) (e : Ev) (x : Arc) : Prop := e.op = 2 ∧ e.item = item ∧ comB l e.txn = true ∧ (WRp l item i e x ∨ RWp l item e ((vv l item).length - 1) x)
def RDp (l : List Ev) (item : Int) (n : Nat) (x : Arc) : Prop := ∃ (i : Nat) (e : Ev), i < n ∧ l[i]? = some e ∧ RDe l item i e x
def AllTo (l : List Ev) (k : Nat) (x : Arc) : Prop := ∃ item : Int, 1 ≤ item ∧ item ≤ (k : Int) ∧ (WWp l item ((vv l item).length - 1) x ∨ RDp l item l.length x)
theorem WWp.succ {l : List Ev} {item : Int} {n : Nat} {a b : Int} (ha : (vv l item)[n]? = some a) (hb : (vv l item)[n + 1]? = some b) (x : Arc) : WWp l item (n + 1) x ↔ WWp l item n x ∨ x = ⟨a, b, 1, item⟩ := by
  constructor
  · rintro ⟨j, hj, a', b', h1, h2, h3⟩
    by_cases e : j = n
    · subst e
      rw [ha] at h1; rw [hb] at h2
      cases h1; cases h2
      exact .inr h3
    · exact .inl ⟨j, by omega, a', b', h1, h2, h3⟩
  · rintro (⟨j, hj, h⟩ | rfl)
    · exact ⟨j, by omega, h⟩
    · exact ⟨n, by omega, a, b, ha, hb, rfl⟩
theorem RWp.succ {l : List Ev} {item : Int} {e : Ev} {n : Nat} {a b : Int} (ha : (vv l item)[n]? = some a) (hb : (vv l item)[n + 1]? = some b) (x : Arc) : RWp l item e (n + 1) x ↔ RWp l item e n x ∨ (a = e.frm ∧ x = ⟨e.txn, b, 3, item⟩) := by
  constructor
  · rintro ⟨j, hj, b', h1, h2, h3⟩
    by_cases ej : j = n
    · subst ej
      rw [ha] at h1; rw [hb] at h2
      cases h1; cases h2
      exact .inr ⟨rfl, h3⟩
    · exact .inl ⟨j, by omega, b', h1, h2, h3⟩
  · rintro (⟨j, hj, h⟩ | ⟨rfl, rfl⟩)
    · exact ⟨j, by omega, h⟩
    · exact ⟨n, by omega, b, ha, hb, rfl⟩
theorem RDp.succ {l : List Ev} {item : Int} {n : Nat} {e : Ev} (he : l[n]? = some e) (x : Arc) : RDp l item (n + 1) x ↔ RDp l item n x ∨ RDe l item n e x := by
  constructor
  · rintro ⟨i, e', hi, h1, h2⟩
    by_cases ei : i = n
    · subst ei
      rw [he] at h1; cases h1
      exact .inr h2
    · exact .inl ⟨i, e', by omega, h1, h2⟩
  · rintro (⟨i, e', hi, h⟩ | h)
    · exact ⟨i, e', by omega, h⟩
    · exact ⟨n, e, by omega, he, h⟩
theorem AllTo.succ {l : List Ev} {k : Nat} {item : Int} (hi : item = ((k + 1 : Nat) : Int)) (x : Arc) : AllTo l (k + 1) x ↔ AllTo l k x ∨ (WWp l item ((vv l item).length - 1) x ∨ RDp l item l.length x) := by
  constructor
  · rintro ⟨m, h1, h2, h3⟩
    by_cases e : m = item
    · rw [← e]; exact .inr h3
    · exact .inl ⟨m, h1, by omega, h3⟩
  · rintro (⟨m, h1, h2, h3⟩ | h)
    · exact ⟨m, h1, by omega, h3⟩
    · exact ⟨item, by omega, by omega, h⟩
theorem vv_rng {l : List Ev} (hok : OkTo l l.length) {item v : Int} {j : Nat} (h : (vv l item)[j]? = some v) : 0 ≤ v ∧ v ≤ 200 := by
  have hm := List.mem_of_getElem? h
  unfold vv at hm
  rcases List.mem_cons.1 hm with rfl | hm
  · omega
  · have := com_in hok (vers_com hm); omega
/-- In a valid history all numbers are of transactions. -/
theorem ev_nums {l : List Ev} (hok : OkTo l l.length) {i : Nat} {x : Ev} (hx : l[i]? = some x) : inB x.txn = true ∧ (x.frm = 0 ∨ inB x.frm = true) := by
  have hi := (List.getElem?_eq_some_iff.1 hx).1
  obtain ⟨h1, _, _, h2⟩ := ev_parts (hok i x hi hx)
  refine ⟨h1, ?_⟩
  rcases h2 with ⟨_, hp⟩ | ⟨_, _, _, hf⟩ | ⟨_, _, _, _, hf⟩ | ⟨_, hp⟩
  · unfold plainB at hp; simp at hp; exact .inl hp.2.1
  · rcases hf with hf | hf
    · exact .inl hf
    · obtain ⟨j, y, hj, hy, hp⟩ := any_take.1 hf
      have := (ev_parts (hok j y (by omega) hy)).1
      rw [(isW_iff.1 hp).2.1] at this
      exact .inr this
  · exact .inl hf
  · unfold plainB at hp; simp at hp; exact .inl hp.2.1
section
variable {H H' H0 : Hp} {Q : Value → Hp → Prop} {g ga : Nat} {A : Option Addr} {n c : Nat} {l : List Ev}
theorem HisAt.comF (B : HisAt H g ga A n c l) {t : Int} {K : Nat → Nat → Prop} (h0 : 0 ≤ t) (h1 : t ≤ 200) (hk : cl H ga (0 + t.toNat * 1) = some (.int .i64 (comV l t)) → K ga 0) : onPtr (some ⟨ga, 0, none⟩) K := by
  refine onPtrI (hk ?_)
  have := B.com.get (x := t) h0 (by omega)
  rw [show ((t.toNat : Nat) : Int) = t by omega] at this
  exact this
set_option maxHeartbeats 1000000 in
theorem c55 (B : HisAt H g ga A n c l) (hok : OkTo l l.length) (hs : l.length ≤ 2000) (hq : ∀ A' n' c' out H', Ext H H' → ArcOut H' A' n' c' out (AllTo l 200) → Q (.slice A' n' c') H') : HCalls Tryz.prog 55 [.pointer (some ⟨g, 0, none⟩)] H Q := by
  refine f55.ok _ _ ?_
  unfold f55
  have hA := B.evs
  obtain rfl := hA.len
  have hlt := hA.lt
  refine loop_to 200 (fun i st H' => ∃ A1 n1 c1 out, st = (((A1, n1, c1), (((i + 1 : Nat) : Int), ())), ()) ∧ Ext H H' ∧ ArcOut H' A1 n1 c1 out (AllTo l i)) ⟨none, 0, 0, [], rfl, Ext.refl _, ⟨rfl, .inl rfl, by unfold huge; decide⟩, Nat.le_refl _, List.Pairwise.nil, fun x hx => (by cases hx), fun x => ⟨fun h => (by cases h), fun ⟨_, m, h1, h2, _⟩ => by omega⟩⟩ ?_
  rintro i st H2 next hi ⟨A1, n1, c1, out, rfl, hx2, O2⟩ hnext
  dsimp only
  by_cases hi200 : i < 200
  rotate_left
  · obtain rfl : i = 200 := by omega
    exact cndF (decide_eq_false (by omega)) (hq A1 n1 c1 out H2 hx2 O2)
  generalize hitem : ((i + 1 : Nat) : Int) = item at hnext ⊢
  have hir : 1 ≤ item ∧ item ≤ 200 := by omega
  have B2 := B.ext hx2
  refine cndT (decide_eq_true (by omega)) (c88 B2 hok hs fun A6 c6 H5 x5 S6 => ⟨_, _, _, rfl, ?_⟩)
  have hvl := S6.lt
  have hv0 : 0 < (vv l item).length := by unfold vv; simp
  have hvs : (vv l item).length ≤ 2001 := by have := vers_len (l := l) (k := item); unfold vv; rw [List.length_cons]; omega
  have ei1 : ∀ j : Nat, j < 100000 → IntKind.i64.wrap (((j + 1 : Nat) : Int) + 1) = ((j + 1 + 1 : Nat) : Int) := fun j hj => by rw [wrap_id (by omega) (by omega)]; rfl
  have em1 : ∀ j : Nat, j < 100000 → IntKind.i64.wrap (((j + 1 : Nat) : Int) - 1) = (j : Int) := fun j hj => by rw [wrap_id (by omega) (by omega)]; omega
  refine loop_to ((vv l item).length - 1) (fun j st H' => ∃ A1 n1 c1 out, st = (((A1, n1, c1), (((j + 1 : Nat) : Int), ())), ()) ∧ Ext H5 H' ∧ ArcOut H' A1 n1 c1 out (fun x => AllTo l i x ∨ WWp l item j x)) ⟨A1, n1, c1, out, rfl, Ext.refl _, (O2.ext x5).congr fun x => ⟨.inl, fun h => h.elim id fun ⟨j, hj, _⟩ => absurd hj (by omega)⟩⟩ ?_
  rintro j st H8 next2 hj ⟨A7, n7, c7, out7, rfl, hx8, O8⟩ hnext2
  dsimp only
  by_cases hjl : j + 1 < (vv l item).length
  · obtain ⟨a, ha⟩ := get_of (l := vv l item) (i := j) (by omega)
    obtain ⟨b, hb⟩ := get_of (l := vv l item) (i := j + 1) hjl
    have S8 := S6.ext hx8
    rw [em1 j (by omega)]
    refine cndT (decide_eq_true (by omega)) ⟨by omega, by omega, rd_in S8 ha fun q o _ k1 => ⟨a, by simpa using k1, by omega, by omega, rd_in S8 hb fun q o _ k2 => ⟨b, by simpa using k2, ?_⟩⟩⟩
    refine c89 (a := ⟨a, b, 1, item⟩) O8 ⟨vv_rng hok ha, vv_rng hok hb, by simp, hir⟩ fun A' n' c' out' H' x' O' => ⟨_, _, _, rfl, rfl, hnext2 _ _ (by omega) ⟨A', n', c', out', by rw [ei1 j (by omega)], hx8.trans x', O'.congr fun x => by rw [WWp.succ ha hb, or_assoc]⟩⟩
  have hje : j = (vv l item).length - 1 := by omega
  subst hje
  have B8 := (B2.ext x5).ext hx8
  have S8 := S6.ext hx8
  refine cndF (decide_eq_false (by omega)) ⟨_, _, _, B8.cl0, ?_⟩
  refine loop_to l.length (fun m st H' => ∃ A1 n1 c1 out, st = (((A1, n1, c1), ((m : Int), ())), ()) ∧ Ext H8 H' ∧ ArcOut H' A1 n1 c1 out (fun x => (AllTo l i x ∨ WWp l item ((vv l item).length - 1) x) ∨ RDp l item m x)) ⟨A7, n7, c7, out7, rfl, Ext.refl _, O8.congr fun x => ⟨.inl, fun h => h.elim id fun ⟨m, e, hm, _⟩ => absurd hm (by omega)⟩⟩ ?_
  rintro m st H19 next3 hm ⟨A18, n18, c18, out18, rfl, hx19, O19⟩ hnext3
  dsimp only
  have B19 := B8.ext hx19
  by_cases hml : m < l.length
  rotate_left
  · obtain rfl : m = l.length := by omega
    refine cndF (decide_eq_false (by omega)) ⟨rfl, hnext _ _ hi200 ⟨A18, n18, c18, out18, by rw [← hitem, ei1 i (by omega)], ((hx2.trans x5).trans hx8).trans hx19, O19.congr fun x => by rw [AllTo.succ hitem.symm, or_assoc]⟩⟩
  obtain ⟨e, he⟩ := get_of hml
  have em : IntKind.i64.wrap ((m : Int) + 1) = ((m + 1 : Nat) : Int) := by rw [wrap_id (by omega) (by omega)]; rfl
  obtain ⟨htin, hfin⟩ := ev_nums hok he
  have ht : 1 ≤ e.txn ∧ e.txn ≤ 200 := by unfold inB at htin; simpa using htin
  have hf : 0 ≤ e.frm ∧ e.frm ≤ 200 := by
    rcases hfin with h | h
    · omega
    · unfold inB at h; simp at h; omega
  refine cndT (decide_eq_true (by omega)) (jn_intro (fun J => ∀ A' n' c' out' H', Ext H8 H' → ArcOut H' A' n' c' out' (fun x => ((AllTo l i x ∨ WWp l item ((vv l item).length - 1) x) ∨ RDp l item m x) ∨ RDe l item m e x) → J A' n' c' H') (fun A' n' c' out' H' a b => ⟨rfl, hnext3 _ _ hml ⟨A', n', c', out', by rw [em], a, b.congr fun x => by rw [RDp.succ he, or_assoc (a := AllTo l i x ∨ _)]⟩⟩) fun J hJ => ⟨by omega, by omega, rd_ev (hA.ext (((hx2.trans x5).trans hx8).trans hx19)) he fun q o _ k1 k2 k3 k4 k5 => ⟨e.op, by simpa using k1, e.txn, by simpa using k2, e.item, by simpa using k3, e.frm, by simpa using k4, e.stmt, by simpa using k5, ?_⟩⟩)
  refine jn_intro (fun J31 => ∀ b, b = !((e.op == 2) && ((e.item == item) && comB l e.txn)) → J31 b) (fun b hb => cndI (fun hbt => ?_) fun hbf => ?_) fun J31 h31 => cndI (fun h1 => h31 _ ?_) fun h1 => cndI (fun h2 => h31 _ ?_) fun h2 => ⟨_, _, _, B19.cl1, by omega, by show e.txn < ((201 : Nat) : Int); omega, B19.comF (by omega) ht.2 fun hcl => ⟨_, hcl, h31 _ ?_⟩⟩
  · have hno : ∀ x, ¬ RDe l item m e x := fun x ⟨h1, h2, h3, _⟩ => by
      rw [hbt, h1, h2, h3] at hb
      simp at hb
    exact hJ A18 n18 c18 out18 H19 hx19 (O19.congr fun x => ⟨.inl, fun h => h.elim id fun h => absurd h (hno x)⟩)
  · rw [hbf] at hb
    have hb := not_f hb
    simp only [Bool.and_eq_true, beq_iff_eq] at hb
    obtain ⟨ho2, hei, hcom⟩ := hb
    refine jn_intro (fun J48 => ∀ A' n' c' out' H', Ext H8 H' → ArcOut H' A' n' c' out' (fun x => ((AllTo l i x ∨ WWp l item ((vv l item).length - 1) x) ∨ RDp l item m x) ∨ WRp l item m e x) → J48 A' n' c' H') (fun A' n' c' out' H' hx' O' => ?_) fun J48 h48 => ?_
    · have S' := S8.ext hx'
      refine loop_to ((vv l item).length - 1) (fun j st H' => ∃ A1 n1 c1 out, st = (((A1, n1, c1), (((j + 1 : Nat) : Int), ())), ()) ∧ Ext H8 H' ∧ ArcOut H' A1 n1 c1 out (fun x => (((AllTo l i x ∨ WWp l item ((vv l item).length - 1) x) ∨ RDp l item m x) ∨ WRp l item m e x) ∨ RWp l item e j x)) ⟨A', n', c', out', rfl, hx', O'.congr fun x => ⟨.inl, fun h => h.elim id fun ⟨j, hj, _⟩ => absurd hj (by omega)⟩⟩ ?_
      rintro j st H50 next4 hj ⟨A49, n49, c49, out49, rfl, hx50, O50⟩ hnext4
      dsimp only
      by_cases hjl2 : j + 1 < (vv l item).length
      · obtain ⟨a, ha⟩ := get_of (l := vv l item) (i := j) (by omega)
        obtain ⟨b, hb⟩ := get_of (l := vv l item) (i := j + 1) hjl2
        have S50 := S8.ext hx50
        rw [em1 j (by omega)]
        refine cndT (decide_eq_true (by omega)) (jn_intro (fun J63 => ∀ A' n' c' out' H', Ext H8 H' → ArcOut H' A' n' c' out' (fun x => (((AllTo l i x ∨ WWp l item ((vv l item).length - 1) x) ∨ RDp l item m x) ∨ WRp l item m e x) ∨ RWp l item e (j + 1) x) → J63 A' n' c' H') (fun A' n' c' out' H' a b => ⟨rfl, hnext4 _ _ (by omega) ⟨A', n', c', out', by rw [ei1 j (by omega)], a, b⟩⟩) fun J63 h63 => ⟨by omega, by omega, rd_in S50 ha fun q o _ k1 => ⟨a, by simpa using k1, cndI (fun heq => ⟨by omega, by omega, rd_in S50 hb fun q o _ k2 => ⟨b, by simpa using k2, ?_⟩⟩) fun hne => ?_⟩⟩)
        · have heq : a = e.frm := by simpa using heq
          refine c89 (a := ⟨e.txn, b, 3, item⟩) O50 ⟨by simp; omega, vv_rng hok hb, by simp, hir⟩ fun A' n' c' out' H' x' O' => ⟨_, _, _, rfl, h63 A' n' c' out' H' (hx50.trans x') (O'.congr fun x => by rw [RWp.succ ha hb, or_assoc]; simp only [heq, true_and])⟩
        · have hne : a ≠ e.frm := by simpa using hne
          exact h63 A49 n49 c49 out49 H50 hx50 (O50.congr fun x => by rw [RWp.succ ha hb]; simp only [hne, false_and, or_false])
      · have hje : j = (vv l item).length - 1 := by omega
        subst hje
        refine cndF (decide_eq_false (by omega)) (hJ A49 n49 c49 out49 H50 hx50 (O50.congr fun x => ?_))
        unfold RDe
        simp only [ho2, hei, hcom, true_and]
        rw [or_assoc (a := (AllTo l i x ∨ _) ∨ _)]
    · refine jn_intro (fun J40 => ∀ b H', Ext H19 H' → b = ((e.frm != 0) && (comB l e.frm && !wrFrom l e.frm item m)) → J40 b H') (fun b H39 x39 hb => cndI (fun hbt => ?_) fun hbf => ?_) fun J40 h40 => cndI (fun h0 => ⟨_, _, _, B19.cl1, by omega, by show e.frm < ((201 : Nat) : Int); omega, B19.comF (by omega) hf.2 fun hcl => ⟨_, hcl, cndI (fun hge => c90 B19 (by omega) ⟨_, rfl, h40 _ H19 (Ext.refl _) ?_⟩) fun hge => h40 _ H19 (Ext.refl _) ?_⟩⟩) fun h0 => h40 _ H19 (Ext.refl _) ?_
      · rw [hbt] at hb
        have hb := hb.symm
        simp only [Bool.and_eq_true, bne_iff_ne, ne_eq, Bool.not_eq_true'] at hb
        refine c89 (a := ⟨e.frm, e.txn, 2, item⟩) (O19.ext x39) ⟨hf, by simp; omega, by simp, hir⟩ fun A' n' c' out' H' x' O' => ⟨_, _, _, rfl, h48 A' n' c' out' H' ((hx19.trans x39).trans x') (O'.congr fun x => ?_)⟩
        unfold WRp
        simp only [ne_eq, hb.1, hb.2.1, hb.2.2, not_false_eq_true, true_and]
      · rw [hbf] at hb
        have hno : ∀ x, ¬ WRp l item m e x := fun x ⟨h1, h2, h3, _⟩ => by
          rw [h2, h3] at hb
          simp at hb
          exact h1 hb
        exact h48 A18 n18 c18 out18 H39 (hx19.trans x39) ((O19.ext x39).congr fun x => ⟨.inl, fun h => h.elim id fun h => absurd h (hno x)⟩)
      · rw [h0, ← comV_ge, hge]; rfl
      · rw [← comV_ge, hge]; simp
      · rw [h0]; rfl
  · have : (e.op == 2) = false := by unfold bne at h1; cases h : e.op == 2 <;> rw [h] at h1 <;> simp_all
    rw [this]; rfl
  · have : (e.item == item) = false := by unfold bne at h2; cases h : e.item == item <;> rw [h] at h2 <;> simp_all
    rw [this]; simp
  · have e1 : (e.op == 2) = true := by unfold bne at h1; cases h : e.op == 2 <;> rw [h] at h1 <;> simp_all
    have e2 : (e.item == item) = true := by unfold bne at h2; cases h : e.item == item <;> rw [h] at h2 <;> simp_all
    rw [comV_lt, e1, e2]; rfl
end
end Go.Proofs.YtibhpoikhkokiaaGreat.Hw

/- The document's arcs are the program's (plain law; c19, c20). -/
set_option linter.unusedVariables false
set_option linter.unusedSimpArgs false
set_option linter.unusedSectionVars false
set_option maxRecDepth 20000
namespace Go.Proofs.YtibhpoikhkokiaaGreat.Hw
open Go Go.Proofs
section
variable {l : List Ev} (hok : OkTo l l.length)
include hok
theorem item_in {item v : Int} (h : v ∈ versM l item) : 1 ≤ item ∧ item ≤ 200 := by
  obtain ⟨j, x, hx, ho, ht, hw⟩ := vers_get h
  obtain ⟨i, y, hi, hy, hp⟩ := any_take.1 hw
  obtain ⟨y1, y2, y3⟩ := isW_iff.1 hp
  have hyl := (List.getElem?_eq_some_iff.1 hy).1
  obtain ⟨_, _, _, h4⟩ := ev_parts (hok i y hyl hy)
  rcases h4 with ⟨h, _⟩ | ⟨h, _⟩ | ⟨_, h, _⟩ | ⟨h, _⟩
  · omega
  · omega
  · rw [y3] at h
    unfold inB at h; simpa using h
  · omega
theorem read_in {i : Nat} {e : Ev} (he : l[i]? = some e) (ho : e.op = 2) : (1 ≤ e.item ∧ e.item ≤ 200) ∧ (e.frm = 0 ∨ wroteM (l.take i) e.frm e.item = true) := by
  obtain ⟨_, _, _, h4⟩ := ev_parts (hok i e (List.getElem?_eq_some_iff.1 he).1 he)
  rcases h4 with ⟨h, _⟩ | ⟨_, h, _, h5⟩ | ⟨h, _⟩ | ⟨h, _⟩
  · omega
  · refine ⟨?_, h5⟩
    unfold inB at h; simpa using h
  · omega
  · omega
theorem from_iff {i : Nat} {t item : Int} : wrFrom l t item i = false ↔ natOr (lastW l t item) < i ∨ lastW l t item = none := by
  unfold wrFrom
  constructor
  · intro h
    cases hw : lastW l t item with
    | none => exact .inr rfl
    | some w =>
      refine .inl ?_
      show w < i
      apply Nat.lt_of_not_le
      intro hle
      obtain ⟨x, hx, hp, _⟩ := lastI_some hw
      rw [List.any_eq_false] at h
      have hm : x ∈ l.drop i := List.mem_of_getElem? (i := w - i) (by rw [List.getElem?_drop, show i + (w - i) = w by omega]; exact hx)
      exact h x hm hp
  · intro h
    rw [← Bool.not_eq_true, List.any_eq_true]
    rintro ⟨x, hx, hp⟩
    obtain ⟨m, hm⟩ := List.getElem?_of_mem hx
    rw [List.getElem?_drop] at hm
    obtain ⟨j, hj, hle⟩ := lastI_ge hm hp
    have hj' : lastW l t item = some j := hj
    rw [hj'] at h
    rcases h with h | h
    · have : j < i := h
      omega
    · cases h
theorem next_of {item f b : Int} {j : Nat} (h1 : (versM l item)[j]? = some f) (h2 : (versM l item)[j + 1]? = some b) (hf : f ≠ 0) : nextM l item f = b := by
  unfold nextM
  rw [if_neg (by simpa using hf)]
  obtain ⟨g1, g2⟩ := List.getElem?_eq_some_iff.1 h1
  have : (versM l item).findIdx? (fun y => f == y) = some j := by
    rw [List.findIdx?_eq_some_iff_getElem]
    refine ⟨g1, by rw [g2]; simp, fun m hm he => ?_⟩
    have he : f = (versM l item)[m] := by simpa using he
    have := List.pairwise_iff_getElem.1 (rise hok item) m j (by omega) g1 hm
    rw [g2, ← he] at this
    omega
  rw [this]
  show ((versM l item)[j + 1]?).getD 0 = b
  rw [h2]; rfl
theorem all_iff {x : Arc} : (okA x ∧ AllTo l 200 x) ↔ ArcIs l x := by
  have hvv : ∀ (item : Int) (j : Nat), (vv l item)[j + 1]? = (versM l item)[j]? := fun item j => rfl
  have hvl : ∀ item : Int, (vv l item).length = (versM l item).length + 1 := fun item => rfl
  have vnz : ∀ {item v : Int} {j : Nat}, (versM l item)[j]? = some v → v ≠ 0 := fun {item v j} h => by
    have := com_in hok (vers_com (List.mem_of_getElem? h)); omega
  constructor
  · rintro ⟨⟨hne, ha0, hb0⟩, item, hi1, hi2, ⟨j, hj, a, b, h1, h2, rfl⟩ | ⟨i, e, hi, he, ho, hei, hcom, ⟨h1, h2, h3, rfl⟩ | ⟨j, hj, b, h1, h2, rfl⟩⟩⟩
    · cases j with
      | zero => cases h1; exact absurd rfl ha0
      | succ j =>
        rw [hvv] at h1 h2
        exact ⟨hne, vers_com (List.mem_of_getElem? h1), vers_com (List.mem_of_getElem? h2), .inl ⟨rfl, j, h1, h2⟩⟩
    · refine ⟨hne, h2, hcom, .inr (.inl ⟨rfl, i, e, he, ho, ?_, rfl, rfl, hei.symm⟩)⟩
      rw [hei]
      rcases (from_iff hok).1 h3 with h | h
      · exact h
      · rcases (read_in hok he ho).2 with h5 | h5
        · exact absurd h5 h1
        · exfalso
          obtain ⟨m, y, _, hy, hp⟩ := any_take.1 h5
          rw [hei] at hp
          have := lastI_none (p := isW e.frm item) h hy
          rw [hp] at this; cases this
    · rw [hvv] at h2
      have hcb := vers_com (List.mem_of_getElem? h2)
      refine ⟨hne, hcom, hcb, .inr (.inr ⟨rfl, i, e, he, ho, ?_, rfl, ?_, hei.symm⟩)⟩
      · cases j with
        | zero => exact .inl (by unfold vv at h1; simpa using h1.symm)
        | succ j =>
          rw [hvv] at h1
          exact .inr (vers_com (List.mem_of_getElem? h1))
      · rw [hei]
        cases j with
        | zero =>
          have : e.frm = 0 := by unfold vv at h1; simpa using h1.symm
          show b = nextM l item e.frm
          unfold nextM
          rw [this, if_pos (by rfl), h2]; rfl
        | succ j =>
          rw [hvv] at h1
          exact (next_of hok h1 h2 (vnz h1)).symm
  · rintro ⟨hne, hca, hcb, ⟨hk, j, h1, h2⟩ | ⟨hk, i, e, he, ho, hlt, ea, eb, ei⟩ | ⟨hk, i, e, he, ho, hc, ea, eb, ei⟩⟩
    all_goals have hai := com_in hok hca
    all_goals have hbi := com_in hok hcb
    all_goals refine ⟨⟨hne, by omega, by omega⟩, ?_⟩
    · have hin := item_in hok (List.mem_of_getElem? h1)
      have hj2 := (List.getElem?_eq_some_iff.1 h2).1
      refine ⟨x.item, hin.1, hin.2, .inl ⟨j + 1, by rw [hvl]; omega, x.a, x.b, by rw [hvv]; exact h1, by rw [hvv]; exact h2, ?_⟩⟩
      cases x; simp only at hk; subst hk; rfl
    · have hin := (read_in hok he ho).1
      refine ⟨x.item, by rw [ei]; exact hin.1, by rw [ei]; exact hin.2, .inr ⟨i, e, (List.getElem?_eq_some_iff.1 he).1, he, ho, ei.symm, by rw [← eb]; exact hcb, .inl ⟨by rw [← ea]; omega, by rw [← ea]; exact hca, (from_iff hok).2 (.inl (by rw [ei]; exact hlt)), ?_⟩⟩⟩
      cases x; simp only at hk ea eb; subst hk ea eb; rfl
    · have hin := (read_in hok he ho).1
      refine ⟨x.item, by rw [ei]; exact hin.1, by rw [ei]; exact hin.2, .inr ⟨i, e, (List.getElem?_eq_some_iff.1 he).1, he, ho, ei.symm, by rw [← ea]; exact hca, .inr ?_⟩⟩
      have hx : x = ⟨e.txn, x.b, 3, x.item⟩ := by cases x; simp only at hk ea; subst hk ea; rfl
      rcases next_get eb.symm (by omega) with ⟨hf, hv⟩ | ⟨hf, j, hv1, hv2⟩
      · rw [← ei] at hv
        have hl := (List.getElem?_eq_some_iff.1 hv).1
        exact ⟨0, by rw [hvl]; omega, x.b, by rw [hf]; rfl, by rw [hvv]; exact hv, hx⟩
      · rw [← ei] at hv1 hv2
        have hl := (List.getElem?_eq_some_iff.1 hv2).1
        exact ⟨j + 1, by rw [hvl]; omega, x.b, by rw [hvv]; exact hv1, by rw [hvv]; exact hv2, hx⟩
end
section
variable {H H' : Hp} {Q : Value → Hp → Prop} {A : Option Addr} {n c : Nat} {l : List Ev} {g ga : Nat}
/-- The document's arcs. -/
theorem c55a (B : HisAt H g ga A n c l) (hok : OkTo l l.length) (hs : l.length ≤ 2000) (hq : ∀ A' c' rs H', Ext H H' → ArcsOf l rs → rs.length ≤ 33000000 → SlAt arC H' A' rs.length rs → rs.length ≤ c' → Q (.slice A' rs.length c') H') : HCalls Tryz.prog 55 [.pointer (some ⟨g, 0, none⟩)] H Q := by
  refine c55 B hok hs fun A' n' c' out H' hx O => ?_
  have hl := O.sl.len
  subst hl
  exact hq A' c' out H' hx ⟨O.srt, fun x => by rw [O.mem, all_iff hok, arc_iff]⟩ (arcs_few O.srt O.rng) O.sl O.cap
end
end Go.Proofs.YtibhpoikhkokiaaGreat.Hw

/- What functions of the program come to, by the evaluator: printed by a program of this session (gen.py) and checked here. -/
set_option linter.unusedVariables false
set_option maxRecDepth 100000
namespace Go.Proofs.YtibhpoikhkokiaaGreat.Hw
open Go Go.Proofs

/-- justiciar justiciarref29.Faults -/
def f22 (pl_A : Option Addr) (pl_n pl_c : Nat) (H : Hp) (Q : Value → Hp → Prop) : Prop :=
  HCalls Tryz.prog 21 [.slice pl_A pl_n pl_c] H fun v1 H2 => ∃ x3 : Bool, v1 = .bool x3 ∧ cnd (!x3) (Q (.tuple #[.slice none 0 0, .int .i64 2]) H2) (HCalls Tryz.prog 54 [.slice pl_A pl_n pl_c] H2 fun v4 H5 => ∃ p6 : Option
    Addr, v4 = .pointer p6 ∧ HCalls Tryz.prog 55 [.pointer p6] H5 fun v7 H8 => ∃ (A9 : Option Addr) (n9 c9 : Nat), v7 = .slice A9 n9 c9 ∧ jn (fun (jA17 : Option Addr) (jn18 : Nat) (jc19 : Nat) (H20 : Hp) => jn (fun (jA29
    : Option Addr) (jn30 : Nat) (jc31 : Nat) (H32 : Hp) => jn (fun (jA41 : Option Addr) (jn42 : Nat) (jc43 : Nat) (H44 : Hp) => jn (fun (jA53 : Option Addr) (jn54 : Nat) (jc55 : Nat) (H56 : Hp) => jn (fun (jA65 : Option
    Addr) (jn66 : Nat) (jc67 : Nat) (H68 : Hp) => jn (fun (jA80 : Option Addr) (jn81 : Nat) (jc82 : Nat) (H83 : Hp) => Q (.tuple #[.slice jA80 jn81 jc82, .int .i64 0]) H83) fun J84 => jn (fun (j73 : Bool) (H74 : Hp) =>
    cnd j73 (newF H74 9 [.string ({ data := #[99, 105, 114, 99, 108, 101, 115, 32, 114, 119] } : ByteArray)] fun g76 H77 => appendF H77 9 1 16 jA65 jn66 jc67 (some ⟨g76, 0, none⟩) 1 fun A78 n78 c78 H79 => J84 A78 n78 c78
    H79) (J84 jA65 jn66 jc67 H74)) fun J75 => cnd ((((jn66 : Nat) : Int) : Int) == ((jn30 : Nat) : Int)) (HCalls Tryz.prog 60 [.slice A9 n9 c9, .int .i64 3, .int .i64 3] H68 fun v70 H71 => ∃ x72 : Bool, v70 = .bool x72 ∧
    J75 x72 H71) (J75 false H68)) fun J69 => HCalls Tryz.prog 60 [.slice A9 n9 c9, .int .i64 3, .int .i64 2] H56 fun v58 H59 => ∃ x60 : Bool, v58 = .bool x60 ∧ cnd x60 (newF H59 9 [.string ({ data := #[99, 105, 114, 99,
    108, 101, 32, 114, 119] } : ByteArray)] fun g61 H62 => appendF H62 9 1 16 jA53 jn54 jc55 (some ⟨g61, 0, none⟩) 1 fun A63 n63 c63 H64 => J69 A63 n63 c63 H64) (J69 jA53 jn54 jc55 H59)) fun J57 => HCalls Tryz.prog 60
    [.slice A9 n9 c9, .int .i64 2, .int .i64 2] H44 fun v46 H47 => ∃ x48 : Bool, v46 = .bool x48 ∧ cnd x48 (newF H47 9 [.string ({ data := #[99, 105, 114, 99, 108, 101, 32, 119, 114] } : ByteArray)] fun g49 H50 => appendF
    H50 9 1 16 jA41 jn42 jc43 (some ⟨g49, 0, none⟩) 1 fun A51 n51 c51 H52 => J57 A51 n51 c51 H52) (J57 jA41 jn42 jc43 H47)) fun J45 => HCalls Tryz.prog 60 [.slice A9 n9 c9, .int .i64 1, .int .i64 1] H32 fun v34 H35 => ∃
    x36 : Bool, v34 = .bool x36 ∧ cnd x36 (newF H35 9 [.string ({ data := #[99, 105, 114, 99, 108, 101, 32, 119, 119] } : ByteArray)] fun g37 H38 => appendF H38 9 1 16 jA29 jn30 jc31 (some ⟨g37, 0, none⟩) 1 fun A39 n39
    c39 H40 => J45 A39 n39 c39 H40) (J45 jA29 jn30 jc31 H35)) fun J33 => HCalls Tryz.prog 59 [.pointer p6] H20 fun v22 H23 => ∃ x24 : Bool, v22 = .bool x24 ∧ cnd x24 (newF H23 9 [.string ({ data := #[114, 101, 97, 100,
    32, 98, 101, 116, 119, 101, 101, 110] } : ByteArray)] fun g25 H26 => appendF H26 9 1 16 jA17 jn18 jc19 (some ⟨g25, 0, none⟩) 1 fun A27 n27 c27 H28 => J33 A27 n27 c27 H28) (J33 jA17 jn18 jc19 H23)) fun J21 => HCalls
    Tryz.prog 58 [.pointer p6] H8 fun v10 H11 => ∃ x12 : Bool, v10 = .bool x12 ∧ cnd x12 (newF H11 9 [.string ({ data := #[97, 98, 111, 114, 116, 101, 100, 32, 114, 101, 97, 100] } : ByteArray)] fun g13 H14 => appendF H14
    9 1 16 none 0 0 (some ⟨g13, 0, none⟩) 1 fun A15 n15 c15 H16 => J21 A15 n15 c15 H16) (J21 none 0 0 H11))
end Go.Proofs.YtibhpoikhkokiaaGreat.Hw

/- The document's histories: faults (c58, c59, c65, c91, c60, c22). -/
set_option linter.unusedVariables false
set_option linter.unusedSimpArgs false
set_option linter.unusedSectionVars false
set_option maxRecDepth 20000
namespace Go.Proofs.YtibhpoikhkokiaaGreat.Hw
open Go Go.Proofs
theorem from_read {l : List Ev} (hok : OkTo l l.length) {i : Nat} {e : Ev} (he : l[i]? = some e) (ho : e.op = 2) {t item : Int} : wrFrom l t item i = decide (i < natOr (lastW l t item)) := by
  cases hb : wrFrom l t item i with
  | false =>
    rcases (from_iff hok).1 hb with h | h
    · exact (decide_eq_false (by omega)).symm
    · rw [h]; exact (decide_eq_false (by unfold natOr; simp)).symm
  | true =>
    refine (decide_eq_true ?_).symm
    apply Nat.lt_of_not_le
    intro hle
    have hnf : ¬ wrFrom l t item i = false := by rw [hb]; decide
    rw [from_iff hok] at hnf
    cases hw : lastW l t item with
    | none => exact hnf (.inr hw)
    | some w =>
      rw [hw] at hle hnf
      have hle : w ≤ i := hle
      by_cases e1 : w = i
      · obtain ⟨x, hx, hp, _⟩ := lastI_some hw
        rw [e1, he] at hx; cases hx
        have := (isW_iff.1 hp).1
        omega
      · exact hnf (.inl (show w < i by omega))
section
variable {H H' H0 : Hp} {Q : Value → Hp → Prop} {g ga : Nat} {A : Option Addr} {n c : Nat} {l : List Ev}
theorem c58 (B : HisAt H g ga A n c l) (hok : OkTo l l.length) (hq : Q (.bool (abTo l l.length)) H) : HCalls Tryz.prog 58 [.pointer (some ⟨g, 0, none⟩)] H Q := by
  refine f58.ok _ _ ?_
  unfold f58
  have hA := B.evs
  obtain rfl := hA.len
  have hlt := hA.lt
  unfold abTo at hq
  rw [List.take_length] at hq
  refine ⟨_, _, _, B.cl0, scan hlt (fun i H' => H' = H ∧ (l.take i).any (fun x => badRead l x && !comB l x.frm) = false) ⟨rfl, by simp⟩ (fun i H3 next hi hI hnext => ?_) (fun H3 next hI => ?_)⟩
  · obtain ⟨rfl, hno⟩ := hI
    obtain ⟨e, he⟩ := get_of hi
    obtain ⟨htin, hfin⟩ := ev_nums hok he
    have ht : 1 ≤ e.txn ∧ e.txn ≤ 200 := by unfold inB at htin; simpa using htin
    have hf : 0 ≤ e.frm ∧ e.frm ≤ 200 := by
      rcases hfin with h | h
      · omega
      · unfold inB at h; simp at h; omega
    dsimp only
    refine cndT (decide_eq_true (by omega)) ⟨by omega, by omega, rd_ev hA he fun q o _ k1 k2 k3 k4 k5 => ⟨e.op, by simpa using k1, e.txn, by simpa using k2, e.item, by simpa using k3, e.frm, by simpa using k4, e.stmt, by simpa using k5, ?_⟩⟩
    refine jn_intro (fun J => ∀ b, b = (badRead l e && !comB l e.frm) → J b) (fun b hb => cndI (fun hbt => ?_) fun hbf => ⟨rfl, hnext H3 ⟨rfl, ?_⟩⟩) fun J hJ => cndI (fun h1 => ⟨_, _, _, B.cl1, by omega, by show e.txn < ((201 : Nat) : Int); omega, B.comF (by omega) ht.2 fun hcl => ⟨_, hcl, cndI (fun h2 => cndI (fun h3 => cndI (fun h4 => ⟨_, _, _, B.cl1, by omega, by show e.frm < ((201 : Nat) : Int); omega, B.comF (by omega) hf.2 fun hcl2 => ⟨_, hcl2, hJ _ ?_⟩⟩) fun h4 => hJ _ ?_) fun h3 => hJ _ ?_) fun h2 => hJ _ ?_⟩⟩) fun h1 => hJ _ ?_
    · rw [any_hit he (by rw [← hb, hbt])] at hq; exact hq
    · rw [any_take_succ he, hno, ← hb, hbf]; rfl
    · rw [comV_ge] at h2
      unfold badRead; rw [comV_lt, h1, h2, h3, h4]; rfl
    · unfold badRead; rw [h4]; simp
    · unfold badRead; rw [h3]; simp
    · rw [comV_ge] at h2
      unfold badRead; rw [h2]; simp
    · unfold badRead; rw [h1]; rfl
  · obtain ⟨rfl, hno⟩ := hI
    rw [List.take_length] at hno
    dsimp only
    rw [hno] at hq
    exact cndF (decide_eq_false (by omega)) hq
theorem c59 (B : HisAt H g ga A n c l) (hok : OkTo l l.length) (hq : Q (.bool (btTo l l.length)) H) : HCalls Tryz.prog 59 [.pointer (some ⟨g, 0, none⟩)] H Q := by
  refine f59.ok _ _ ?_
  unfold f59
  have hA := B.evs
  obtain rfl := hA.len
  have hlt := hA.lt
  refine ⟨_, _, _, B.cl0, scan hlt (fun i H' => H' = H ∧ btTo l i = false) ⟨rfl, rfl⟩ (fun i H3 next hi hI hnext => ?_) (fun H3 next hI => ?_)⟩
  · obtain ⟨rfl, hno⟩ := hI
    obtain ⟨e, he⟩ := get_of hi
    obtain ⟨htin, hfin⟩ := ev_nums hok he
    have ht : 1 ≤ e.txn ∧ e.txn ≤ 200 := by unfold inB at htin; simpa using htin
    have hbt : btAt l i = (badRead l e && decide (i < natOr (lastW l e.frm e.item))) := by unfold btAt; rw [he]
    dsimp only
    refine cndT (decide_eq_true (by omega)) ⟨by omega, by omega, rd_ev hA he fun q o _ k1 k2 k3 k4 k5 => ⟨e.op, by simpa using k1, e.txn, by simpa using k2, e.item, by simpa using k3, e.frm, by simpa using k4, e.stmt, by simpa using k5, ?_⟩⟩
    refine jn_intro (fun J => ∀ b, b = btAt l i → J b H3) (fun b hb => cndI (fun hbt2 => ?_) fun hbf => ⟨rfl, hnext H3 ⟨rfl, ?_⟩⟩) fun J hJ => cndI (fun h1 => ⟨_, _, _, B.cl1, by omega, by show e.txn < ((201 : Nat) : Int); omega, B.comF (by omega) ht.2 fun hcl => ⟨_, hcl, cndI (fun h2 => cndI (fun h3 => cndI (fun h4 => c90 B (by omega) ⟨_, rfl, hJ _ ?_⟩) fun h4 => hJ _ ?_) fun h3 => hJ _ ?_) fun h2 => hJ _ ?_⟩⟩) fun h1 => hJ _ ?_
    · have : btTo l l.length = true := by
        unfold btTo
        exact List.any_eq_true.2 ⟨i, List.mem_range.2 hi, by rw [← hb, hbt2]⟩
      rw [this] at hq; exact hq
    · rw [btTo_succ, hno, ← hb, hbf]; rfl
    · rw [comV_ge] at h2
      have o2 : e.op = 2 := by simpa using h1
      rw [hbt, from_read hok he o2]
      unfold badRead; rw [h1, h2, h3, h4]; rfl
    · rw [hbt]; unfold badRead; rw [h4]; simp
    · rw [hbt]; unfold badRead; rw [h3]; simp
    · rw [comV_ge] at h2
      rw [hbt]; unfold badRead; rw [h2]; simp
    · rw [hbt]; unfold badRead; rw [h1]; rfl
  · obtain ⟨rfl, hno⟩ := hI
    dsimp only
    rw [hno] at hq
    exact cndF (decide_eq_false (by omega)) hq
end
end Go.Proofs.YtibhpoikhkokiaaGreat.Hw

/- The document's shortest circles, plain: the search by levels finds what the way back finds. -/
set_option linter.unusedVariables false
set_option linter.unusedSimpArgs false
set_option linter.unusedSectionVars false
namespace Go.Proofs.YtibhpoikhkokiaaGreat.Hw
open Go Go.Proofs
section
variable {E : Int → List Int} {s : Int}
end
end Go.Proofs.YtibhpoikhkokiaaGreat.Hw

/- What functions of the program come to, by the evaluator: printed by a program of this session (gen.py) and checked here. -/
set_option linter.unusedVariables false
set_option maxRecDepth 100000
namespace Go.Proofs.YtibhpoikhkokiaaGreat.Hw
open Go Go.Proofs

/-- justiciar justiciarlaw29.HistoryTells -/
def f5 (pl_A : Option Addr) (pl_n pl_c : Nat) (H : Hp) (Q : Value → Hp → Prop) : Prop :=
  HCalls Tryz.prog 10 [.slice pl_A pl_n pl_c] H fun v1 H2 => ∃ x3 : Bool, v1 = .bool x3 ∧ cnd x3 (HCalls Tryz.prog 11 [] H2 fun v4 H5 => ∃ x6 : Bool, v4 = .bool x6 ∧ Q (.bool x6) H5) (HCalls Tryz.prog 18 [.slice pl_A pl_n
    pl_c] H2 fun v7 H8 => ∃ (A9 : Option Addr) (n9 c9 : Nat), ∃ x10 : Int, v7 = .tuple #[.slice A9 n9 c9, .int .i64 x10] ∧ HCalls Tryz.prog 19 [.slice pl_A pl_n pl_c] H8 fun v11 H12 => ∃ (A13 : Option Addr) (n13 c13 :
    Nat), ∃ x14 : Int, v11 = .tuple #[.slice A13 n13 c13, .int .i64 x14] ∧ jn (fun (j24 : Bool) (H25 : Hp) => cnd j24 (Q (.bool false) H25) (HCalls Tryz.prog 13 [.slice pl_A pl_n pl_c] H25 fun v27 H28 => ∃ (A29 : Option
    Addr) (n29 c29 : Nat), ∃ x30 : Int, v27 = .tuple #[.slice A29 n29 c29, .int .i64 x30] ∧ HCalls Tryz.prog 22 [.slice pl_A pl_n pl_c] H28 fun v31 H32 => ∃ (A33 : Option Addr) (n33 c33 : Nat), ∃ x34 : Int, v31 = .tuple
    #[.slice A33 n33 c33, .int .i64 x34] ∧ jn (fun (j38 : Bool) (H39 : Hp) => cnd j38 (Q (.bool false) H39) (HCalls Tryz.prog 23 [.slice pl_A pl_n pl_c] H39 fun v41 H42 => ∃ (A43 : Option Addr) (n43 c43 : Nat), ∃ x44 :
    Int, v41 = .tuple #[.slice A43 n43 c43, .int .i64 x44] ∧ HCalls Tryz.prog 24 [.slice pl_A pl_n pl_c] H42 fun v45 H46 => ∃ (A47 : Option Addr) (n47 c47 : Nat), ∃ x48 : Int, v45 = .tuple #[.slice A47 n47 c47, .int .i64
    x48] ∧ jn (fun (j55 : Bool) (H56 : Hp) => Q (.bool j55) H56) fun J57 => HCalls Tryz.prog 25 [.slice A43 n43 c43, .slice A47 n47 c47] H46 fun v49 H50 => ∃ x51 : Bool, v49 = .bool x51 ∧ cnd x51 (cnd ((x44 : Int) == x48)
    (HCalls Tryz.prog 11 [] H50 fun v52 H53 => ∃ x54 : Bool, v52 = .bool x54 ∧ J57 x54 H53) (J57 false H50)) (J57 false H50))) fun J40 => HCalls Tryz.prog 15 [.slice A29 n29 c29, .slice A33 n33 c33] H32 fun v35 H36 => ∃
    x37 : Bool, v35 = .bool x37 ∧ cnd (!x37) (J40 true H36) (J40 ((x30 : Int) != x34) H36))) fun J26 => HCalls Tryz.prog 20 [.slice A9 n9 c9, .slice A13 n13 c13] H12 fun v15 H16 => ∃ x17 : Bool, v15 = .bool x17 ∧ cnd
    (!x17) (J26 true H16) (cnd ((x10 : Int) != x14) (J26 true H16) (HCalls Tryz.prog 14 [.slice pl_A pl_n pl_c] H16 fun v18 H19 => ∃ x20 : Bool, v18 = .bool x20 ∧ HCalls Tryz.prog 21 [.slice pl_A pl_n pl_c] H19 fun v21
    H22 => ∃ x23 : Bool, v21 = .bool x23 ∧ J26 (!(x20 == x23)) H22)))
/-- justiciar justiciarref29.Anomaly -/
def f24 (pl_A : Option Addr) (pl_n pl_c : Nat) (H : Hp) (Q : Value → Hp → Prop) : Prop :=
  HCalls Tryz.prog 21 [.slice pl_A pl_n pl_c] H fun v1 H2 => ∃ x3 : Bool, v1 = .bool x3 ∧ cnd (!x3) (Q (.tuple #[.slice none 0 0, .int .i64 2]) H2) (HCalls Tryz.prog 54 [.slice pl_A pl_n pl_c] H2 fun v4 H5 => ∃ p6 : Option
    Addr, v4 = .pointer p6 ∧ HCalls Tryz.prog 55 [.pointer p6] H5 fun v7 H8 => ∃ (A9 : Option Addr) (n9 c9 : Nat), v7 = .slice A9 n9 c9 ∧ HCalls Tryz.prog 65 [.pointer p6] H8 fun v10 H11 => ∃ (A12 : Option Addr) (n12 c12
    : Nat), v10 = .slice A12 n12 c12 ∧ LoopF (σ := ((Option Addr × Nat × Nat) × (Int × Unit)) × Unit) (((none, 0, 0), (0, ())), ()) H11 fun s13 H14 next15 => cnd (decide ((s13.1.2.1 : Int) < ((n12 : Nat) : Int))) (jn (fun
    (jA23 : Option Addr) (jn24 : Nat) (jc25 : Nat) (H26 : Hp) => KeepX [some (.v (.slice A9 n9 c9)), some (.v (.slice A12 n12 c12)), some (.v (.int .i64 ((n12 : Nat) : Int)))] [] ∧ next15 (((jA23, jn24, jc25),
    (IntKind.i64.wrap (s13.1.2.1 + 1), ())), ()) H26) fun J27 => 0 ≤ (s13.1.2.1 : Int) ∧ (s13.1.2.1 : Int) < ((n12 : Nat) : Int) ∧ onPtr A12 fun b16 o16 => ∃ x17 : Int, cl H14 b16 (o16 + (s13.1.2.1 : Int).toNat * 1) =
    some (.int .i64 x17) ∧ HCalls Tryz.prog 66 [.slice A9 n9 c9, .int .i64 x17] H14 fun v18 H19 => ∃ (A20 : Option Addr) (n20 c20 : Nat), v18 = .slice A20 n20 c20 ∧ jn (fun (j21 : Bool) => cnd j21 (J27 A20 n20 c20 H19)
    (J27 s13.1.1.1 s13.1.1.2.1 s13.1.1.2.2 H19)) fun J22 => cnd (decide ((((n20 : Nat) : Int) : Int) > 0)) (cnd ((((s13.1.1.2.1 : Nat) : Int) : Int) == 0) (J22 true) (J22 (decide ((((n20 : Nat) : Int) : Int) <
    ((s13.1.1.2.1 : Nat) : Int))))) (J22 false)) (cnd ((((s13.1.1.2.1 : Nat) : Int) : Int) == 0) (Q (.tuple #[.slice none 0 0, .int .i64 4]) H14) (Q (.tuple #[.slice s13.1.1.1 s13.1.1.2.1 s13.1.1.2.2, .int .i64 0]) H14)))
end Go.Proofs.YtibhpoikhkokiaaGreat.Hw

/- The document's shortest circles: rows of rows, next, done, shortest (c94, c65, c66). -/
set_option linter.unusedVariables false
set_option linter.unusedSimpArgs false
set_option linter.unusedSectionVars false
set_option maxRecDepth 20000
namespace Go.Proofs.YtibhpoikhkokiaaGreat.Hw
open Go Go.Proofs
theorem RowI.at {H0 H : Hp} {A : Option Addr} {c : Nat} {l : List Int} (R : RowI H0 H A c l) (hs : l.length < big) : SlAt inC H A l.length l := ⟨rfl, R.cells, by unfold big at hs; unfold huge; omega⟩
theorem RowI.more {H0 H H' : Hp} {A : Option Addr} {c : Nat} {l : List Int} (R : RowI H0 H A c l) (hx : Ext H H') : RowI H0 H' A c l := Row.keep R (fun b hb => ext_at hx (Row.lt R hb).1)
theorem cut_zero {A : Option Addr} {k : Nat} {s : Bool} : cutA A (0 * k) s = A := by
  unfold cutA
  cases s with
  | true => rfl
  | false =>
    cases A with
    | none => rfl
    | some a => cases a; simp [Addr.add]
/-- A row of the search, with its slice. -/
structure RR where
  A : Option Addr
  c : Nat
  r : List Int
def rrC (x : RR) : List Value := [.slice x.A x.r.length x.c]
section
variable {H0 H : Hp} {Q : Value → Hp → Prop}
theorem fork {A : Option Addr} {r : List Int} {m : Int} {g : Nat} {K : Option Addr → Nat → Nat → Hp → Prop} (hA : cellsAt H A (r.flatMap inC)) (hr : r.length < big) (hg : H g = none)
    (hk : ∀ A' c' H', RowI H H' A' c' (r ++ [m]) → Ext H H' → K A' (r ++ [m]).length c' H') : appendF (upd g (.cells [Value.int .i64 m].toArray 3 (0, 0)) H) 3 1 8 A r.length r.length (some ⟨g, 0, none⟩) 1 K := by
  unfold big at hr
  have hx1 : Ext H (upd g (.cells [Value.int .i64 m].toArray 3 (0, 0)) H) := Ext.new hg
  refine ⟨by omega, by omega, [Value.int .i64 m], rfl, .inr ⟨g, 0, rfl, fun j v hj => by rw [cl_cells upd_at, Nat.zero_add]; exact hj⟩, fun v hv => by rw [List.mem_singleton.1 hv]; rfl, fun h => by omega, fun _ => ⟨r.flatMap inC, inC_len, cellsAt_ext hx1 hA, fun b cap rest hb hcap hmax hrest => ?_⟩⟩
  have hbH := hx1.none hb
  have hx2 := hx1.trans (Ext.new (o := .cells (r.flatMap inC ++ [Value.int .i64 m] ++ rest).toArray 3 (0, 0)) hb)
  have hl : (r ++ [m]).length = r.length + 1 := by simp
  have hvl : (r.flatMap inC).length = r.length * 1 := inC_len
  have := hk (some ⟨b, 0, none⟩) cap _ ⟨by rw [inC_len], by omega, .inr ⟨b, _, 3, rfl, upd_at, by simp only [List.length_append, List.length_singleton]; omega, ?_, hbH⟩⟩ hx2
  · rw [hl] at this; exact this
  · rw [List.flatMap_append, hl]
    refine List.take_left' ?_
    rw [List.length_append, hvl]; simp
theorem Row.push1x {α : Type} {f : α → List Value} {k ty eby : Nat} (hf : ∀ x, (f x).length = k) (ho : ∀ x, ∀ v ∈ f x, v.oneCell' = true) (he : eby ≤ 100) {S : Option Addr} {c g : Nat} {st : List α} {w : α} {K : Option Addr → Nat → Nat → Hp → Prop} (R : Row H0 H S st.length c k (st.flatMap f)) (hx : Ext H0 H) (hs : st.length < big) (hg : H g = none)
    (hk : ∀ A' c' H', Row H0 H' A' (st ++ [w]).length c' k ((st ++ [w]).flatMap f) → Ext H0 H' → (∀ b, H' b ≠ H b → rowB S b ∨ H b = none) → (∀ b, rowB A' b → rowB S b ∨ H b = none) → (∀ b, H b ≠ none → H' b ≠ none) → K A' (st ++ [w]).length c' H') :
    appendF (upd g (.cells (f w).toArray ty (0, 0)) H) ty k eby S st.length c (some ⟨g, 0, none⟩) 1 K := by
  unfold big at hs
  have hx1 : Ext H (upd g (.cells (f w).toArray ty (0, 0)) H) := Ext.new hg
  have R1 := Row.keep R (fun b hb => ext_at hx1 (R.lt hb).1)
  have hroom : (st.length + 1) * eby ≤ 1000000000001 * 100 := Nat.mul_le_mul (by omega) he
  refine R1.append (hx.trans hx1) (new := f w) (.inr ⟨g, 0, rfl, fun j v hj => by rw [cl_cells upd_at, Nat.zero_add]; exact hj⟩) (by rw [hf]; omega) (ho w) (by omega) (by omega) fun A' c' H' R' x' ch nw _ => ?_
  have old : ∀ b, (upd g (.cells (f w).toArray ty (0, 0)) H) b = none → H b = none := fun b h => hx1.none h
  have := hk A' c' H' (by rw [List.length_append, List.flatMap_append]; simpa using R') x' (fun b hb => ?_) (fun b hb => (nw b hb).imp id (old b)) (fun b hb h0 => ?_)
  · rw [List.length_append] at this; exact this
  · by_cases e : b = g
    · subst e; exact .inr hg
    · have : H' b ≠ (upd g (.cells (f w).toArray ty (0, 0)) H) b := by rw [upd_off e]; exact hb
      exact (ch b this).2.imp id (old b)
  · by_cases e : H' b = (upd g (.cells (f w).toArray ty (0, 0)) H) b
    · exact hb (old b (e ▸ h0))
    · exact (R'.lt (ch b e).1).1 h0
/-- Levels: the numbers that were seen, the level that is being made, the level that is gone through. -/
structure LvI (H0 H : Hp) (SA : Option Addr) (sc : Nat) (seen : List Int) (TA : Option Addr) (tc : Nat) (ns : List RR) (A0 : Option Addr) (c0 : Nat) (rs : List RR) : Prop where
  ext : Ext H0 H
  sn : RowI H0 H SA sc seen
  tab : Row H0 H TA ns.length tc 1 (ns.flatMap rrC)
  old : Row H0 H A0 rs.length c0 1 (rs.flatMap rrC)
  row : ∀ x, x ∈ rs ∨ x ∈ ns → RowI H0 H x.A x.c x.r
  sep : ∀ b, rowB SA b → ¬ rowB TA b ∧ ¬ rowB A0 b ∧ ∀ x, x ∈ rs ∨ x ∈ ns → ¬ rowB x.A b
  sepT : ∀ b, rowB TA b → ¬ rowB A0 b ∧ ∀ x, x ∈ rs ∨ x ∈ ns → ¬ rowB x.A b
section
variable {SA TA A0 : Option Addr} {sc tc c0 : Nat} {seen : List Int} {ns rs : List RR}
theorem LvI.more {H' : Hp} (I : LvI H0 H SA sc seen TA tc ns A0 c0 rs) (hx : Ext H H') : LvI H0 H' SA sc seen TA tc ns A0 c0 rs :=
  ⟨I.ext.trans hx, I.sn.more hx, Row.keep I.tab fun b hb => ext_at hx (I.tab.lt hb).1, Row.keep I.old fun b hb => ext_at hx (I.old.lt hb).1, fun x hm => (I.row x hm).more hx, I.sep, I.sepT⟩
theorem LvI.add {x : RR} {m : Int} {K : Option Addr → Nat → Nat → Option Addr → Nat → Nat → Hp → Prop} (I : LvI H0 H SA sc seen TA tc ns A0 c0 rs) (hx : x ∈ rs) (hr : x.r.length < big) (hl1 : ns.length < big) (hl2 : seen.length < big)
    (hk : ∀ SA' sc' TA' tc' B d H', LvI H0 H' SA' sc' (seen ++ [m]) TA' tc' (ns ++ [RR.mk B d (x.r ++ [m])]) A0 c0 rs → (∀ b, H b ≠ none → ¬ rowB TA b → ¬ rowB SA b → H' b = H b) → (∀ b, rowB TA' b → rowB TA b ∨ H b = none) → (∀ b, rowB SA' b → rowB SA b ∨ H b = none) → K SA' (seen ++ [m]).length sc' TA' (ns ++ [RR.mk B d (x.r ++ [m])]).length tc' H') :
    newF H 3 [.int .i64 m] fun g42 H43 => appendF H43 3 1 8 SA seen.length sc (some ⟨g42, 0, none⟩) 1 fun A44 n44 c44 H45 => newF H45 3 [.int .i64 m] fun g46 H47 => appendF H47 3 1 8 x.A x.r.length x.r.length (some ⟨g46, 0, none⟩) 1 fun A48 n48 c48 H49 => newF H49 23 [.slice A48 n48 c48] fun g50 H51 => appendF H51 23 1 24 TA ns.length tc (some ⟨g50, 0, none⟩) 1 fun A52 n52 c52 H53 => K A44 n44 c44 A52 n52 c52 H53 := by
  intro g42 hg42
  refine Row.push1x (f := inC) (w := m) (fun _ => rfl) (fun y v hv => by rw [List.mem_singleton.1 hv]; rfl) (by omega) I.sn I.ext hl2 hg42 fun A49 c49 H50 R50 x50 ch50 nw50 dom50 => ?_
  have R50 : RowI H0 H50 A49 c49 (seen ++ [m]) := R50
  have keep50 : ∀ b, H b ≠ none → ¬ rowB SA b → H50 b = H b := fun b hn hb => Classical.byContradiction fun hne => by
    rcases ch50 b hne with h | h
    · exact hb h
    · exact hn h
  have tab50 := Row.keep I.tab fun b hb => keep50 b (I.tab.lt hb).1 fun h => (I.sep b h).1 hb
  have old50 := Row.keep I.old fun b hb => keep50 b (I.old.lt hb).1 fun h => (I.sep b h).2.1 hb
  have row50 : ∀ y, y ∈ rs ∨ y ∈ ns → RowI H0 H50 y.A y.c y.r := fun y hm => Row.keep (I.row y hm) fun b hb => keep50 b (Row.lt (I.row y hm) hb).1 fun h => (I.sep b h).2.2 y hm hb
  intro g51 hg51
  refine fork (Row.cells (row50 x (.inl hx))) hr hg51 fun A53 c53 H54 R54 x54 => ?_
  have R54' : RowI H0 H54 A53 c53 (x.r ++ [m]) := Row.base R54 x50
  have tab54 := Row.keep tab50 fun b hb => ext_at x54 (tab50.lt hb).1
  have old54 := Row.keep old50 fun b hb => ext_at x54 (old50.lt hb).1
  have sn54 : RowI H0 H54 A49 c49 (seen ++ [m]) := R50.more x54
  have row54 : ∀ y, y ∈ rs ∨ y ∈ ns → RowI H0 H54 y.A y.c y.r := fun y hm => (row50 y hm).more x54
  have none54 : ∀ b, H54 b = none → H b = none := fun b h => Classical.byContradiction fun hn => dom50 b hn (x54.none h)
  intro g55 hg55
  refine Row.push1x (f := rrC) (w := RR.mk A53 c53 (x.r ++ [m])) (fun _ => rfl) (fun y v hv => by rw [List.mem_singleton.1 hv]; rfl) (by omega) tab54 (x50.trans x54) hl1 hg55 fun A57 c57 H58 R58 x58 ch58 nw58 _ => ?_
  have keep58 : ∀ b, H54 b ≠ none → ¬ rowB TA b → H58 b = H54 b := fun b hn hb => Classical.byContradiction fun hne => by
    rcases ch58 b hne with h | h
    · exact hb h
    · exact hn h
  have sT : ∀ b, rowB A49 b → ¬ rowB TA b := fun b hb ht => by
    rcases nw50 b hb with h | h
    · exact (I.sep b h).1 ht
    · exact (I.tab.lt ht).1 h
  have fresh : ∀ b, rowB A53 b → H50 b = none := fun b hb => (Row.lt R54 hb).2
  have mems : ∀ y, (y ∈ rs ∨ y ∈ ns ++ [RR.mk A53 c53 (x.r ++ [m])]) → (y ∈ rs ∨ y ∈ ns) ∨ y = RR.mk A53 c53 (x.r ++ [m]) := fun y hy => by
    rcases hy with hy | hy
    · exact .inl (.inl hy)
    · rcases List.mem_append.1 hy with hy | hy
      · exact .inl (.inr hy)
      · exact .inr (List.mem_singleton.1 hy)
  refine hk A49 c49 A57 c57 A53 c53 H58 ⟨x58, Row.keep sn54 fun b hb => keep58 b (Row.lt sn54 hb).1 (sT b hb), R58, Row.keep old54 fun b hb => keep58 b (old54.lt hb).1 fun h => (I.sepT b h).1 hb, fun y hy => ?_, fun b h49 => ⟨fun h57 => ?_, fun h0 => ?_, fun y hy hb => ?_⟩, fun b h57 => ⟨fun h0 => ?_, fun y hy hb => ?_⟩⟩ (fun b hn hT hS => ?_) (fun b hb => (nw58 b hb).imp id (none54 b)) nw50
  · rcases mems y hy with hy | rfl
    · exact Row.keep (row54 y hy) fun b hb => keep58 b (Row.lt (row54 y hy) hb).1 fun h => (I.sepT b h).2 y hy hb
    · exact Row.keep R54' fun b hb => keep58 b (Row.lt R54' hb).1 fun ht => (tab50.lt ht).1 (fresh b hb)
  · rcases nw58 b h57 with h | h
    · exact sT b h49 h
    · exact (Row.lt sn54 h49).1 h
  · rcases nw50 b h49 with h | h
    · exact (I.sep b h).2.1 h0
    · exact (I.old.lt h0).1 h
  · rcases mems y hy with hy | rfl
    · rcases nw50 b h49 with h | h
      · exact (I.sep b h).2.2 y hy hb
      · exact (Row.lt (I.row y hy) hb).1 h
    · exact (Row.lt R50 h49).1 (fresh b hb)
  · rcases nw58 b h57 with h | h
    · exact (I.sepT b h).1 h0
    · exact (old54.lt h0).1 h
  · rcases mems y hy with hy | rfl
    · rcases nw58 b h57 with h | h
      · exact (I.sepT b h).2 y hy hb
      · exact (Row.lt (row54 y hy) hb).1 h
    · rcases nw58 b h57 with h | h
      · exact (tab50.lt h).1 (fresh b hb)
      · exact (Row.lt R54 hb).1 h
  · have e50 := keep50 b hn hS
    have e54 : H54 b = H50 b := ext_at x54 (by rw [e50]; exact hn)
    have e58 := keep58 b (by rw [e54, e50]; exact hn) hT
    rw [e58, e54, e50]
end
variable {rs : List Arc} {E : Int → List Int} {A : Option Addr} {n c : Nat}
end
end Go.Proofs.YtibhpoikhkokiaaGreat.Hw

/- Histories: there is an order just if there is no circle (plain law). -/
set_option linter.unusedVariables false
set_option linter.unusedSimpArgs false
set_option linter.unusedSectionVars false
namespace Go.Proofs.YtibhpoikhkokiaaGreat.Hw
open Go Go.Proofs
/-! ### what the order is -/
/-! ### circles -/
section
variable {E : Int → List Int}
end
/-! ### faults of the first two kinds -/
end Go.Proofs.YtibhpoikhkokiaaGreat.Hw

/- The document's shortest circles walked (c66), who committed (c65), Anomaly (c24). -/
set_option linter.unusedVariables false
set_option linter.unusedSimpArgs false
set_option linter.unusedSectionVars false
set_option maxRecDepth 20000
namespace Go.Proofs.YtibhpoikhkokiaaGreat.Hw
open Go Go.Proofs
section
variable {H H' H0 : Hp} {Q : Value → Hp → Prop} {rs : List Arc} {E : Int → List Int} {A : Option Addr} {n c : Nat}
end
def doneTo (l : List Ev) (i : Nat) : List Int := ((List.range i).map fun (j : Nat) => (j : Int)).filter (comB l)
def doneM (l : List Ev) : List Int := doneTo l 201
theorem doneTo_succ {l : List Ev} {i : Nat} : doneTo l (i + 1) = doneTo l i ++ if comB l (i : Int) then [(i : Int)] else [] := by
  unfold doneTo
  rw [List.range_succ, List.map_append, List.filter_append]
  congr 1
  show List.filter (comB l) [(i : Int)] = _
  rw [List.filter_cons]
  cases comB l (i : Int) <;> rfl
theorem doneTo_len {l : List Ev} {i : Nat} : (doneTo l i).length ≤ i := by
  have := List.length_filter_le (comB l) ((List.range i).map fun (j : Nat) => (j : Int))
  rw [List.length_map, List.length_range] at this
  exact this
theorem strict_done {l : List Ev} : Strict (doneM l) := by
  unfold Strict doneM doneTo
  refine List.Pairwise.filter _ (List.pairwise_map.2 (List.pairwise_lt_range.imp fun {a b} h => ?_))
  exact Int.ofNat_lt.2 h
theorem done_mem {l : List Ev} (hok : OkTo l l.length) {t : Int} : t ∈ doneM l ↔ comB l t = true := by
  unfold doneM doneTo
  rw [List.mem_filter, List.mem_map]
  constructor
  · exact fun h => h.2
  · intro h
    have := com_in hok h
    exact ⟨⟨t.toNat, List.mem_range.2 (by omega), by omega⟩, h⟩
section
variable {H H' H0 : Hp} {Q : Value → Hp → Prop} {g ga : Nat} {A : Option Addr} {n c : Nat} {l : List Ev}
theorem c65 (B : HisAt H g ga A n c l) (hq : ∀ A' c' H', Ext H H' → RowI H H' A' c' (doneM l) → Q (.slice A' (doneM l).length c') H') : HCalls Tryz.prog 65 [.pointer (some ⟨g, 0, none⟩)] H Q := by
  refine f65.ok _ _ ?_
  unfold f65
  refine ⟨_, _, _, B.cl1, loop_to 201 (fun i st H' => ∃ A1 c1, st = (((A1, (doneTo l i).length, c1), ((i : Int), ())), ()) ∧ Ext H H' ∧ RowI H H' A1 c1 (doneTo l i)) ⟨none, 0, rfl, Ext.refl _, Row.nil⟩ ?_⟩
  rintro i st H3 next hi ⟨A1, c1, rfl, hx3, R3⟩ hnext
  dsimp only
  have hdl := doneTo_len (l := l) (i := i)
  by_cases hl : i < 201
  · have ei : IntKind.i64.wrap ((i : Int) + 1) = ((i + 1 : Nat) : Int) := by rw [wrap_id (by omega) (by omega)]; rfl
    have B3 := B.ext hx3
    refine cndT (decide_eq_true (by omega)) (jn_intro (fun J => ∀ A' c' H', Ext H H' → RowI H H' A' c' (doneTo l (i + 1)) → J A' (doneTo l (i + 1)).length c' H') (fun A' c' H' a1 a2 => ⟨rfl, hnext _ _ hl ⟨A', c', by rw [ei], a1, a2⟩⟩) fun J hJ => ⟨by omega, by show (i : Int) < ((201 : Nat) : Int); omega, B3.comF (by omega) (by omega) fun hcl => ⟨_, hcl, ?_⟩⟩)
    rw [comV_ge]
    rw [doneTo_succ] at hJ
    refine cndI (fun h => ?_) fun h => ?_
    · rw [h, if_pos rfl] at hJ
      intro g7 hg7
      exact Row.push1 (w := (i : Int)) (f := inC) (k := 1) (ty := 3) (fun _ => rfl) (fun y v hv => by obtain rfl := List.mem_singleton.1 hv; rfl) (by omega) R3 hx3 (by unfold big; omega) hg7 fun A' c' H' R' x' _ _ => hJ A' c' H' x' R'
    · rw [h, if_neg (by decide), List.append_nil] at hJ
      exact hJ A1 c1 H3 hx3 R3
  · obtain rfl : i = 201 := by omega
    exact cndF (decide_eq_false (by show ¬ (((201 : Nat) : Int) < ((201 : Nat) : Int)); omega)) (hq A1 c1 H3 hx3 R3)
end
end Go.Proofs.YtibhpoikhkokiaaGreat.Hw

/- The document's fits, plain: what its reads, still, statement, committed and serial come to. -/
set_option linter.unusedVariables false
set_option linter.unusedSimpArgs false
set_option linter.unusedSectionVars false
set_option maxRecDepth 20000
namespace Go.Proofs.YtibhpoikhkokiaaGreat.Hw
open Go Go.Proofs
def rlS (l : List Ev) (item : Int) (s : Int) (x : Ev) : Int := if (x.op == 4) && wrFrom l x.txn item 0 then x.txn else s
def rlast (l : List Ev) (item : Int) (n : Nat) : Int := (l.take n).foldl (rlS l item) 0
def rdAt (l : List Ev) (t stmt place : Int) (i : Nat) : Bool := match l[i]? with
  | some x => if (x.txn == t) && ((x.op == 2) && wantedB stmt x) then x.frm == (if wroteM (l.take i) t x.item then t else lastM l x.item place) else true
  | none => true
def wrAt (l : List Ev) (t stmt place u : Int) (i : Nat) : Bool := match l[i]? with
  | some x => if (x.txn == t) && ((x.op == 3) && wantedB stmt x) then cleanB l t x.item place (if decide (u < 0) then (i : Int) else u) else true
  | none => true
def rdB (l : List Ev) (t stmt place : Int) (n : Nat) : Bool := (List.range n).all (rdAt l t stmt place)
def wrB (l : List Ev) (t stmt place u : Int) (n : Nat) : Bool := (List.range n).all (wrAt l t stmt place u)
theorem rdB_succ {l : List Ev} {t stmt place : Int} {n : Nat} : rdB l t stmt place (n + 1) = (rdB l t stmt place n && rdAt l t stmt place n) := by unfold rdB; rw [List.range_succ]; simp
theorem wrB_succ {l : List Ev} {t stmt place u : Int} {n : Nat} : wrB l t stmt place u (n + 1) = (wrB l t stmt place u n && wrAt l t stmt place u n) := by unfold wrB; rw [List.range_succ]; simp
theorem fits_split {l : List Ev} {t stmt place u : Int} : fitsB l t stmt place u = (rdB l t stmt place l.length && wrB l t stmt place u l.length) := by
  have key : ∀ i, okAt l t stmt place u i = (rdAt l t stmt place i && wrAt l t stmt place u i) := fun i => by
    unfold okAt rdAt wrAt
    cases l[i]? with
    | none => rfl
    | some x =>
      simp only
      unfold okEv
      by_cases h1 : x.txn = t
      · by_cases h2 : x.op = 2
        · cases h3 : wantedB stmt x <;> simp [h1, h2, bne]
        · by_cases h3 : x.op = 3
          · cases h4 : wantedB stmt x <;> simp [h1, h3]
          · simp [h1, h2, h3]
      · simp [h1]
  unfold fitsB rdB wrB
  rw [Bool.eq_iff_iff, Bool.and_eq_true, List.all_eq_true, List.all_eq_true, List.all_eq_true]
  constructor
  · intro h
    exact ⟨fun i hi => (Bool.and_eq_true_iff.1 ((key i).symm.trans (h i hi))).1, fun i hi => (Bool.and_eq_true_iff.1 ((key i).symm.trans (h i hi))).2⟩
  · rintro ⟨h1, h2⟩ i hi
    rw [key, h1 i hi, h2 i hi]; rfl
section
variable {l : List Ev} (hok : OkTo l l.length)
include hok
theorem last_eq {item : Int} {n : Nat} (hn : n ≤ l.length) : rlast l item n = lastM l item n := by
  have key : ∀ k, k ≤ l.length → (versM (l.take k) item).foldl (lastS l n) 0 = (l.take (min n k)).foldl (rlS l item) 0 := by
    intro k
    induction k with
    | zero => intro _; simp [vers_nil]
    | succ k ih =>
      intro hk
      obtain ⟨x, hx⟩ := get_of (l := l) (i := k) (by omega)
      have ih := ih (by omega)
      rw [take_snoc hx, vers_snoc, List.foldl_append, ih]
      have hrl : rlS l item = rlS l item := rfl
      cases hc : (x.op == 4) && wroteM (l.take k) x.txn item with
      | true =>
        rw [Bool.and_eq_true, beq_iff_eq] at hc
        have hco := hok.commit_at hx (isC_iff.2 ⟨hc.1, rfl⟩)
        show lastS l n _ x.txn = _
        unfold lastS
        rw [comAt_of hco]
        by_cases hlt : k < n
        · rw [if_pos (decide_eq_true (by omega)), Nat.min_eq_right (by omega), take_snoc hx, List.foldl_append]
          show _ = rlS l item _ x
          unfold rlS
          rw [hc.1, wrote_commit hok hx hc.1, hc.2]; rfl
        · rw [if_neg (by simp; omega), Nat.min_eq_left (by omega), Nat.min_eq_left (by omega)]
      | false =>
        show (l.take (min n k)).foldl (rlS l item) 0 = _
        by_cases hlt : k < n
        · rw [Nat.min_eq_right (by omega : k + 1 ≤ n), Nat.min_eq_right (by omega : k ≤ n), take_snoc hx, List.foldl_append]
          show _ = rlS l item _ x
          unfold rlS
          by_cases ho : x.op = 4
          · rw [wrote_commit hok hx ho, hc]; rfl
          · rw [show (x.op == 4) = false by simpa using ho]; rfl
        · rw [Nat.min_eq_left (by omega), Nat.min_eq_left (by omega)]
  have := key l.length (Nat.le_refl _)
  rw [List.take_length, Nat.min_eq_left hn] at this
  exact this.symm
theorem clean_iff {t item : Int} {f u : Nat} : cleanB l t item f u = true ↔ ∀ (j : Nat) (x : Ev), f ≤ j → j < u → l[j]? = some x → x.op = 4 → x.txn ≠ t → wrFrom l x.txn item 0 = false := by
  unfold cleanB
  rw [Bool.not_eq_true', List.any_eq_false]
  constructor
  · intro h j x h1 h2 hx ho ht
    cases hw : wrFrom l x.txn item 0 with
    | false => rfl
    | true =>
      rw [wrote_commit hok hx ho] at hw
      have := h x.txn (vers_in hx ho rfl hw)
      exfalso
      apply this
      unfold otherB
      rw [comAt_of (hok.commit_at hx (isC_iff.2 ⟨ho, rfl⟩))]
      simp [ht]
      omega
  · intro h v hv hb
    obtain ⟨j, x, hx, ho, rfl, hw⟩ := vers_get hv
    unfold otherB at hb
    rw [comAt_of (hok.commit_at hx (isC_iff.2 ⟨ho, rfl⟩))] at hb
    simp at hb
    have := h j x (by omega) (by omega) hx ho hb.1
    rw [wrote_commit hok hx ho, hw] at this
    cases this
end
/-! ### statement by statement -/
theorem opOf_iff {t : Int} {x : Ev} : opOf t x = true ↔ x.txn = t ∧ (x.op = 2 ∨ x.op = 3) := by unfold opOf; simp
def FirstAt (l : List Ev) (t : Int) (i : Nat) (x : Ev) : Prop := l[i]? = some x ∧ opOf t x = true ∧ ∀ (j : Nat) (y : Ev), j < i → l[j]? = some y → opOf t y = true → y.stmt ≠ x.stmt
def PrevAt (l : List Ev) (t : Int) (i p : Nat) : Prop := p < i ∧ (∃ y, l[p]? = some y ∧ y.txn = t) ∧ ∀ (j : Nat) (y : Ev), p < j → j < i → l[j]? = some y → y.txn ≠ t
def EachP (l : List Ev) (t : Int) (n : Nat) : Prop := ∀ (i : Nat) (x : Ev) (p : Nat), i < n → FirstAt l t i x → PrevAt l t i p → foundB l t x.stmt ((p : Int) + 1) i (-1) = true
theorem prev_one {l : List Ev} {t : Int} {i p q : Nat} (h : PrevAt l t i p) (h' : PrevAt l t i q) : p = q := by
  obtain ⟨h1, ⟨y, h2, h3⟩, h4⟩ := h
  obtain ⟨g1, ⟨z, g2, g3⟩, g4⟩ := h'
  by_cases e : p < q
  · exact absurd g3 (h4 q z e g1 g2)
  · by_cases e' : q < p
    · exact absurd h3 (g4 p y e' h1 h2)
    · omega
section
variable {l : List Ev} (hok : OkTo l l.length)
include hok
theorem op_stmt {i : Nat} {x : Ev} {t : Int} (hx : l[i]? = some x) (ho : opOf t x = true) : max (stmtM (l.take i) t) 1 ≤ x.stmt := by
  obtain ⟨rfl, ho⟩ := opOf_iff.1 ho
  obtain ⟨_, _, _, h⟩ := ev_parts (hok i x (List.getElem?_eq_some_iff.1 hx).1 hx)
  rcases h with ⟨e, _⟩ | ⟨_, _, h, _⟩ | ⟨_, _, h, _⟩ | ⟨e, _⟩
  · omega
  · exact h
  · exact h
  · omega
theorem stmt_step {i : Nat} {x : Ev} {t : Int} (hx : l[i]? = some x) : stmtM (l.take (i + 1)) t = if opOf t x then x.stmt else stmtM (l.take i) t := by
  rw [take_snoc hx, stmt_snoc]
  unfold stmtStep opOf
  by_cases h1 : x.txn = t <;> by_cases h2 : x.op = 2 <;> by_cases h3 : x.op = 3 <;> simp [h1, h2, h3]
/-- What a transaction's statements come to. -/
theorem stmt_inv {t : Int} : ∀ {n : Nat}, n ≤ l.length → (∀ (j : Nat) (y : Ev), j < n → l[j]? = some y → opOf t y = true → y.stmt ≤ stmtM (l.take n) t) ∧ (stmtM (l.take n) t = 0 ∨ ∃ (j : Nat) (y : Ev), j < n ∧ l[j]? = some y ∧ opOf t y = true ∧ y.stmt = stmtM (l.take n) t)
  | 0, _ => ⟨fun j y h => by omega, .inl (by simp [stmtM])⟩
  | n + 1, hn => by
    obtain ⟨h1, h2⟩ := stmt_inv (t := t) (n := n) (by omega)
    obtain ⟨x, hx⟩ := get_of (l := l) (i := n) (by omega)
    rw [stmt_step hok hx]
    cases ho : opOf t x with
    | true =>
      have hs := op_stmt hok hx ho
      simp only [if_true]
      refine ⟨fun j y hj hy hoy => ?_, .inr ⟨n, x, by omega, hx, ho, rfl⟩⟩
      by_cases e : j = n
      · subst e; rw [hx] at hy; cases hy; exact Int.le_refl _
      · have := h1 j y (by omega) hy hoy
        omega
    | false =>
      simp only [Bool.false_eq_true, if_false]
      refine ⟨fun j y hj hy hoy => ?_, ?_⟩
      · by_cases e : j = n
        · subst e; rw [hx] at hy; cases hy; rw [ho] at hoy; cases hoy
        · exact h1 j y (by omega) hy hoy
      · rcases h2 with h2 | ⟨j, y, h3, h4⟩
        · exact .inl h2
        · exact .inr ⟨j, y, by omega, h4⟩
theorem first_iff {t : Int} {i : Nat} {x : Ev} (hx : l[i]? = some x) (ho : opOf t x = true) : x.stmt ≠ stmtM (l.take i) t ↔ FirstAt l t i x := by
  have hil := (List.getElem?_eq_some_iff.1 hx).1
  obtain ⟨h1, h2⟩ := stmt_inv hok (t := t) (n := i) (by omega)
  have hs := op_stmt hok hx ho
  constructor
  · intro h
    refine ⟨hx, ho, fun j y hj hy hoy e => ?_⟩
    have := h1 j y hj hy hoy
    omega
  · rintro ⟨_, _, h⟩ e
    rcases h2 with h2 | ⟨j, y, h3, h4, h5, h6⟩
    · omega
    · exact h j y h3 h4 h5 (by omega)
/-- An event of a transaction behind its begin has one before it. -/
theorem prev_ex {t : Int} : ∀ {i : Nat}, (∃ (b : Nat) (y : Ev), b < i ∧ l[b]? = some y ∧ y.txn = t) → ∃ p, PrevAt l t i p
  | 0, ⟨b, _, h, _⟩ => by omega
  | i + 1, ⟨b, y, h1, h2, h3⟩ => by
    by_cases e : ∃ z, l[i]? = some z ∧ z.txn = t
    · exact ⟨i, by omega, e, fun j z hj hj' => by omega⟩
    · have hb : b ≠ i := fun eb => e ⟨y, by rw [← eb]; exact h2, h3⟩
      obtain ⟨p, g1, g2, g3⟩ := prev_ex (i := i) ⟨b, y, by omega, h2, h3⟩
      refine ⟨p, by omega, g2, fun j z hj hj' hz => ?_⟩
      by_cases ej : j = i
      · subst ej; exact fun et => e ⟨z, hz, et⟩
      · exact g3 j z hj (by omega) hz
theorem op_prev {t : Int} {i : Nat} {x : Ev} (hx : l[i]? = some x) (ho : opOf t x = true) : ∃ p, PrevAt l t i p := by
  obtain ⟨rfl, h⟩ := opOf_iff.1 ho
  obtain ⟨b, hb, hbi⟩ := hok.begin_lt hx (by omega)
  obtain ⟨y, hy, hp⟩ : ∃ y, l[b]? = some y ∧ isB x.txn y = true := by
    obtain ⟨y, h1, h2, _⟩ := lastI_some hb
    exact ⟨y, h1, h2⟩
  exact prev_ex hok ⟨b, y, hbi, hy, (isB_iff.1 hp).2⟩
theorem each_iff {t : Int} (hc : comB l t = true) : eachB l t = true ↔ EachP l t l.length := by
  obtain ⟨ci, hci⟩ := com_some hc
  obtain ⟨k, hk, hkc⟩ := com_begin hok hci
  obtain ⟨cx, hcx, hcp⟩ := commit_get hci
  obtain ⟨bx, hbx, hbp, _⟩ := lastI_some (show lastI (isB t) l = some k from hk)
  have hcl := (List.getElem?_eq_some_iff.1 hcx).1
  have hbt := (isB_iff.1 hbp).2
  have hbo := (isB_iff.1 hbp).1
  -- events of t: ops between
  have mid : ∀ (j : Nat) (y : Ev), k < j → j < ci → l[j]? = some y → y.txn = t → opOf t y = true := fun j y h1 h2 hy ht => by
    obtain ⟨_, _, g3, h⟩ := ev_parts (hok j y (List.getElem?_eq_some_iff.1 hy).1 hy)
    have hbeg : begunM (l.take j) y.txn = true := any_take.2 ⟨k, bx, h1, hbx, by rw [ht]; exact hbp⟩
    have hne1 := g3.1 hbeg
    rcases h with ⟨e, _⟩ | ⟨e, _⟩ | ⟨e, _⟩ | ⟨e, _⟩
    · exact absurd e hne1
    · exact opOf_iff.2 ⟨ht, .inl e⟩
    · exact opOf_iff.2 ⟨ht, .inr e⟩
    · exfalso
      exact hok.after hy hcx hcl h2 (isE_iff.2 ⟨e, by rw [ht, (isC_iff.1 hcp).2]⟩)
  have zero : stmtM (l.take (k + 1)) t = 0 := by
    rw [stmt_step hok hbx]
    have : opOf t bx = false := by unfold opOf; simp [hbo]
    rw [this]
    simp only [Bool.false_eq_true, if_false]
    refine stmt_zero fun x hx e => ?_
    obtain ⟨j, hj⟩ := List.getElem?_of_mem hx
    have hjk := (List.getElem?_eq_some_iff.1 hj).1
    rw [List.length_take] at hjk
    rw [List.getElem?_take_of_lt (by omega)] at hj
    exact no_before hok hk hj (by omega) e
  have inv : ∀ n, k + 1 + n ≤ ci → ∃ p : Nat, (eachTo l t k n).1 = (p : Int) ∧ PrevAt l t (k + 1 + n) p ∧ (eachTo l t k n).2.1 = stmtM (l.take (k + 1 + n)) t ∧ ((eachTo l t k n).2.2 = true ↔ EachP l t (k + 1 + n)) := by
    intro n
    induction n with
    | zero =>
      intro _
      refine ⟨k, rfl, ⟨by omega, ⟨bx, hbx, hbt⟩, fun j y h1 h2 => by omega⟩, zero.symm, ⟨fun _ i x p hi hf hp => ?_, fun _ => rfl⟩⟩
      obtain ⟨h1, h2, _⟩ := hf
      obtain ⟨e, e2⟩ := opOf_iff.1 h2
      by_cases ei : i = k
      · subst ei; rw [hbx] at h1; cases h1; omega
      · exact absurd e (no_before hok hk h1 (by omega))
    | succ n ih =>
      intro hn
      obtain ⟨p, e1, e2, e3, e4⟩ := ih (by omega)
      obtain ⟨x, hx⟩ := get_of (l := l) (i := k + 1 + n) (by omega)
      rw [eachTo_succ]
      have ea : k + 1 + (n + 1) = (k + 1 + n) + 1 := by omega
      rw [ea]
      unfold eachS
      rw [hx]
      simp only
      by_cases ht : x.txn = t
      · have ho := mid _ x (by omega) (by omega) hx ht
        rw [if_pos (by simpa using ht), stmt_step hok hx, ho, if_pos rfl]
        refine ⟨k + 1 + n, rfl, ⟨by omega, ⟨x, hx, ht⟩, fun j y h1 h2 => by omega⟩, rfl, ?_⟩
        simp only
        rw [Bool.and_eq_true, e4, Bool.or_eq_true, beq_iff_eq, e3, e1]
        constructor
        · rintro ⟨h1, h2⟩ i y q hi hf hp
          by_cases ei : i = k + 1 + n
          · subst ei
            obtain ⟨f1, f2, f3⟩ := hf
            rw [hx] at f1; cases f1
            have hq := prev_one e2 hp
            subst hq
            rcases h2 with h2 | h2
            · exact absurd h2 ((first_iff hok hx ho).2 ⟨hx, f2, f3⟩)
            · exact h2
          · exact h1 i y q (by omega) hf hp
        · intro h
          refine ⟨fun i y q hi => h i y q (by omega), ?_⟩
          by_cases es : x.stmt = stmtM (l.take (k + 1 + n)) t
          · exact .inl es
          · exact .inr (h (k + 1 + n) x p (by omega) ((first_iff hok hx ho).1 es) e2)
      · have ho : opOf t x = false := by unfold opOf; simp [ht]
        rw [if_neg (by simpa using ht), stmt_step hok hx, ho]
        simp only [Bool.false_eq_true, if_false]
        refine ⟨p, e1, ⟨by have := e2.1; omega, e2.2.1, fun j y h1 h2 hy => ?_⟩, e3, e4.trans ⟨fun h i y q hi hf hp => ?_, fun h i y q hi => h i y q (by omega)⟩⟩
        · by_cases ej : j = k + 1 + n
          · subst ej; rw [hx] at hy; cases hy; exact ht
          · exact e2.2.2 j y h1 (by omega) hy
        · by_cases ei : i = k + 1 + n
          · subst ei
            have := hf.1
            rw [hx] at this; cases this
            rw [hf.2.1] at ho; cases ho
          · exact h i y q (by omega) hf hp
  obtain ⟨p, _, _, _, h⟩ := inv (ci - (k + 1)) (by omega)
  have en : k + 1 + (ci - (k + 1)) = ci := by omega
  rw [en] at h
  have : eachB l t = (eachTo l t k (ci - (k + 1))).2.2 := by unfold eachB; rw [hk, hci]; rfl
  rw [this, h]
  refine ⟨fun hh i x q hi hf hp => ?_, fun hh i x q hi => hh i x q (by omega)⟩
  by_cases hic : i < ci
  · exact hh i x q hic hf hp
  · exfalso
    obtain ⟨f1, f2, _⟩ := hf
    obtain ⟨ft, fo⟩ := opOf_iff.1 f2
    by_cases ei : i = ci
    · subst ei; rw [hcx] at f1; cases f1
      have := (isC_iff.1 hcp).1
      omega
    · exact hok.after hcx f1 hi (by omega) (by rw [ft]; exact (isC_isE hcp).1)
end
end Go.Proofs.YtibhpoikhkokiaaGreat.Hw

/- What functions of the program come to, by the evaluator: printed by a program of this session (gen.py) and checked here. -/
set_option linter.unusedVariables false
set_option maxRecDepth 100000
namespace Go.Proofs.YtibhpoikhkokiaaGreat.Hw
open Go Go.Proofs

/-- justiciar justiciarlaw29.HistoryFits -/
def f6 (pl_A : Option Addr) (pl_n pl_c : Nat) (psome_A : Option Addr) (psome_n psome_c : Nat) (H : Hp) (Q : Value → Hp → Prop) : Prop :=
  jn (fun (j4 : Bool) (H5 : Hp) => cnd j4 (HCalls Tryz.prog 11 [] H5 fun v7 H8 => ∃ x9 : Bool, v7 = .bool x9 ∧ Q (.bool x9) H8) (HCalls Tryz.prog 16 [.slice pl_A pl_n pl_c] H5 fun v10 H11 => ∃ x12 : Bool, ∃ x13 : Int, v10 =
    .tuple #[.bool x12, .int .i64 x13] ∧ HCalls Tryz.prog 26 [.slice pl_A pl_n pl_c] H11 fun v14 H15 => ∃ x16 : Bool, ∃ x17 : Int, v14 = .tuple #[.bool x16, .int .i64 x17] ∧ jn (fun (j18 : Bool) => cnd j18 (Q (.bool
    false) H15) (HCalls Tryz.prog 17 [.slice pl_A pl_n pl_c] H15 fun v20 H21 => ∃ x22 : Bool, ∃ x23 : Int, v20 = .tuple #[.bool x22, .int .i64 x23] ∧ HCalls Tryz.prog 27 [.slice pl_A pl_n pl_c] H21 fun v24 H25 => ∃ x26 :
    Bool, ∃ x27 : Int, v24 = .tuple #[.bool x26, .int .i64 x27] ∧ jn (fun (j28 : Bool) => cnd j28 (Q (.bool false) H25) (HCalls Tryz.prog 12 [.slice pl_A pl_n pl_c, .slice psome_A psome_n psome_c] H25 fun v30 H31 => ∃ x32
    : Bool, ∃ x33 : Int, v30 = .tuple #[.bool x32, .int .i64 x33] ∧ HCalls Tryz.prog 28 [.slice pl_A pl_n pl_c, .slice psome_A psome_n psome_c] H31 fun v34 H35 => ∃ x36 : Bool, ∃ x37 : Int, v34 = .tuple #[.bool x36, .int
    .i64 x37] ∧ jn (fun (j38 : Bool) => cnd j38 (Q (.bool false) H35) (HCalls Tryz.prog 29 [.slice pl_A pl_n pl_c] H35 fun v40 H41 => ∃ (A42 : Option Addr) (n42 c42 : Nat), ∃ x43 : Bool, ∃ x44 : Int, v40 = .tuple #[.slice
    A42 n42 c42, .bool x43, .int .i64 x44] ∧ HCalls Tryz.prog 30 [.slice pl_A pl_n pl_c] H41 fun v45 H46 => ∃ (A47 : Option Addr) (n47 c47 : Nat), ∃ x48 : Bool, ∃ x49 : Int, v45 = .tuple #[.slice A47 n47 c47, .bool x48,
    .int .i64 x49] ∧ jn (fun (j56 : Bool) (H57 : Hp) => Q (.bool j56) H57) fun J58 => HCalls Tryz.prog 25 [.slice A42 n42 c42, .slice A47 n47 c47] H46 fun v50 H51 => ∃ x52 : Bool, v50 = .bool x52 ∧ cnd x52 (cnd (x43 ==
    x48) (cnd ((x44 : Int) == x49) (HCalls Tryz.prog 11 [] H51 fun v53 H54 => ∃ x55 : Bool, v53 = .bool x55 ∧ J58 x55 H54) (J58 false H51)) (J58 false H51)) (J58 false H51))) fun J39 => cnd (!(x32 == x36)) (J39 true) (J39
    ((x33 : Int) != x37)))) fun J29 => cnd (!(x22 == x26)) (J29 true) (J29 ((x23 : Int) != x27)))) fun J19 => cnd (!(x12 == x16)) (J19 true) (J19 ((x13 : Int) != x17)))) fun J6 => HCalls Tryz.prog 10 [.slice pl_A pl_n
    pl_c] H fun v1 H2 => ∃ x3 : Bool, v1 = .bool x3 ∧ cnd x3 (J6 true H2) (J6 (decide ((((psome_n : Nat) : Int) : Int) > 300)) H2)
noncomputable def fcx6 : Cx := cx 103 [] [] [] []
theorem f6.eq (pl_A : Option Addr) (pl_n pl_c : Nat) (psome_A : Option Addr) (psome_n psome_c : Nat) (H : Hp) (Q : Value → Hp → Prop) : f6 pl_A pl_n pl_c psome_A psome_n psome_c H Q = wFun fcx6 Tryz.f6 [.slice pl_A pl_n pl_c, .slice psome_A psome_n psome_c] H Q := by kernel_rfl
theorem f6.ok (pl_A : Option Addr) (pl_n pl_c : Nat) (psome_A : Option Addr) (psome_n psome_c : Nat) {H : Hp} {Q : Value → Hp → Prop} (h : f6 pl_A pl_n pl_c psome_A psome_n psome_c H Q) : HCalls Tryz.prog 6 [.slice pl_A pl_n pl_c, .slice psome_A psome_n psome_c] H Q := hcalls_of (cxOk 103 [] [] [] []) Tryz.func6 (Eq.mp (f6.eq pl_A pl_n pl_c psome_A psome_n psome_c H Q) h)

/-- justiciar justiciarref29.Committed -/
def f26 (pl_A : Option Addr) (pl_n pl_c : Nat) (H : Hp) (Q : Value → Hp → Prop) : Prop :=
  HCalls Tryz.prog 28 [.slice pl_A pl_n pl_c, .slice none 0 0] H fun v1 H2 => ∃ x3 : Bool, ∃ x4 : Int, v1 = .tuple #[.bool x3, .int .i64 x4] ∧ Q (.tuple #[.bool x3, .int .i64 x4]) H2
noncomputable def fcx26 : Cx := cx 8 [] [] [] []
theorem f26.eq (pl_A : Option Addr) (pl_n pl_c : Nat) (H : Hp) (Q : Value → Hp → Prop) : f26 pl_A pl_n pl_c H Q = wFun fcx26 Tryz.f26 [.slice pl_A pl_n pl_c] H Q := by kernel_rfl
theorem f26.ok (pl_A : Option Addr) (pl_n pl_c : Nat) {H : Hp} {Q : Value → Hp → Prop} (h : f26 pl_A pl_n pl_c H Q) : HCalls Tryz.prog 26 [.slice pl_A pl_n pl_c] H Q := hcalls_of (cxOk 8 [] [] [] []) Tryz.func26 (Eq.mp (f26.eq pl_A pl_n pl_c H Q) h)

/-- justiciar justiciarref29.Serial -/
def f27 (pl_A : Option Addr) (pl_n pl_c : Nat) (H : Hp) (Q : Value → Hp → Prop) : Prop :=
  HCalls Tryz.prog 21 [.slice pl_A pl_n pl_c] H fun v1 H2 => ∃ x3 : Bool, v1 = .bool x3 ∧ cnd (!x3) (Q (.tuple #[.bool false, .int .i64 2]) H2) (HCalls Tryz.prog 54 [.slice pl_A pl_n pl_c] H2 fun v4 H5 => ∃ p6 : Option
    Addr, v4 = .pointer p6 ∧ HCalls Tryz.prog 67 [.pointer p6, .bool true, .slice none 0 0] H5 fun v7 H8 => ∃ x9 : Bool, v7 = .bool x9 ∧ Q (.tuple #[.bool x9, .int .i64 0]) H8)
noncomputable def fcx27 : Cx := cx 10 [] [] [] []
theorem f27.eq (pl_A : Option Addr) (pl_n pl_c : Nat) (H : Hp) (Q : Value → Hp → Prop) : f27 pl_A pl_n pl_c H Q = wFun fcx27 Tryz.f27 [.slice pl_A pl_n pl_c] H Q := by kernel_rfl
theorem f27.ok (pl_A : Option Addr) (pl_n pl_c : Nat) {H : Hp} {Q : Value → Hp → Prop} (h : f27 pl_A pl_n pl_c H Q) : HCalls Tryz.prog 27 [.slice pl_A pl_n pl_c] H Q := hcalls_of (cxOk 10 [] [] [] []) Tryz.func27 (Eq.mp (f27.eq pl_A pl_n pl_c H Q) h)

/-- justiciar justiciarref29.Fits -/
def f28 (pl_A : Option Addr) (pl_n pl_c : Nat) (pserial_A : Option Addr) (pserial_n pserial_c : Nat) (H : Hp) (Q : Value → Hp → Prop) : Prop :=
  HCalls Tryz.prog 21 [.slice pl_A pl_n pl_c] H fun v1 H2 => ∃ x3 : Bool, v1 = .bool x3 ∧ cnd (!x3) (Q (.tuple #[.bool false, .int .i64 2]) H2) (HCalls Tryz.prog 54 [.slice pl_A pl_n pl_c] H2 fun v4 H5 => ∃ p6 : Option
    Addr, v4 = .pointer p6 ∧ HCalls Tryz.prog 67 [.pointer p6, .bool false, .slice pserial_A pserial_n pserial_c] H5 fun v7 H8 => ∃ x9 : Bool, v7 = .bool x9 ∧ Q (.tuple #[.bool x9, .int .i64 0]) H8)
noncomputable def fcx28 : Cx := cx 13 [] [] [] []
theorem f28.eq (pl_A : Option Addr) (pl_n pl_c : Nat) (pserial_A : Option Addr) (pserial_n pserial_c : Nat) (H : Hp) (Q : Value → Hp → Prop) : f28 pl_A pl_n pl_c pserial_A pserial_n pserial_c H Q = wFun fcx28 Tryz.f28 [.slice pl_A pl_n pl_c, .slice pserial_A pserial_n pserial_c] H Q := by kernel_rfl
theorem f28.ok (pl_A : Option Addr) (pl_n pl_c : Nat) (pserial_A : Option Addr) (pserial_n pserial_c : Nat) {H : Hp} {Q : Value → Hp → Prop} (h : f28 pl_A pl_n pl_c pserial_A pserial_n pserial_c H Q) : HCalls Tryz.prog 28 [.slice pl_A pl_n pl_c, .slice pserial_A pserial_n pserial_c] H Q := hcalls_of (cxOk 13 [] [] [] []) Tryz.func28 (Eq.mp (f28.eq pl_A pl_n pl_c pserial_A pserial_n pserial_c H Q) h)

/-- justiciar justiciarref29.Order -/
def f30 (pl_A : Option Addr) (pl_n pl_c : Nat) (H : Hp) (Q : Value → Hp → Prop) : Prop :=
  HCalls Tryz.prog 21 [.slice pl_A pl_n pl_c] H fun v1 H2 => ∃ x3 : Bool, v1 = .bool x3 ∧ cnd (!x3) (Q (.tuple #[.slice none 0 0, .bool false, .int .i64 2]) H2) (HCalls Tryz.prog 54 [.slice pl_A pl_n pl_c] H2 fun v4 H5 => ∃
    p6 : Option Addr, v4 = .pointer p6 ∧ HCalls Tryz.prog 55 [.pointer p6] H5 fun v7 H8 => ∃ (A9 : Option Addr) (n9 c9 : Nat), v7 = .slice A9 n9 c9 ∧ jn (fun (j16 : Bool) (H17 : Hp) => cnd j16 (Q (.tuple #[.slice none 0
    0, .bool false, .int .i64 0]) H17) (HCalls Tryz.prog 65 [.pointer p6] H17 fun v19 H20 => ∃ (A21 : Option Addr) (n21 c21 : Nat), v19 = .slice A21 n21 c21 ∧ LoopF (σ := ((Option Addr × Nat × Nat) × ((Option Addr × Nat ×
    Nat) × Unit)) × Unit) (((A21, n21, c21), ((none, 0, 0), ())), ()) H20 fun s22 H23 next24 => cnd (decide ((((s22.1.1.2.1 : Nat) : Int) : Int) > 0)) (LoopF (σ := (Int × (Int × Unit)) × Unit) (((-1), (0, ())), ()) H23
    fun s25 H26 next27 => cnd (decide ((s25.1.2.1 : Int) < ((s22.1.1.2.1 : Nat) : Int))) (jn (fun (j50 : Int) (H51 : Hp) => KeepX [some (.v (.slice A9 n9 c9)), some (.v (.slice s22.1.1.1 s22.1.1.2.1 s22.1.1.2.2)), some
    (.v (.slice s22.1.2.1.1 s22.1.2.1.2.1 s22.1.2.1.2.2)), some (.v (.slice s22.1.1.1 s22.1.1.2.1 s22.1.1.2.2)), some (.v (.int .i64 ((s22.1.1.2.1 : Nat) : Int)))] [] ∧ next27 ((j50, (IntKind.i64.wrap (s25.1.2.1 + 1),
    ())), ()) H51) fun J52 => 0 ≤ (s25.1.2.1 : Int) ∧ (s25.1.2.1 : Int) < ((s22.1.1.2.1 : Nat) : Int) ∧ onPtr s22.1.1.1 fun b28 o28 => ∃ x29 : Int, cl H26 b28 (o28 + (s25.1.2.1 : Int).toNat * 1) = some (.int .i64 x29) ∧
    LoopF (σ := (Bool × (Int × Unit)) × Unit) ((true, (0, ())), ()) H26 fun s30 H31 next32 => cnd (decide ((s30.1.2.1 : Int) < ((n9 : Nat) : Int))) (jn (fun (j41 : Bool) (j42 : Int) (j43 : Int) (j44 : Int) (j45 : Int)
    (H46 : Hp) => KeepX [some (.v (.slice A9 n9 c9)), some (.v (.slice s22.1.1.1 s22.1.1.2.1 s22.1.1.2.2)), some (.v (.slice s22.1.2.1.1 s22.1.2.1.2.1 s22.1.2.1.2.2)), some (.v (.int .i64 s25.1.1)), some (.v (.int .i64
    s25.1.2.1)), some (.v (.int .i64 x29)), some (.v (.slice s22.1.1.1 s22.1.1.2.1 s22.1.1.2.2)), some (.v (.int .i64 ((s22.1.1.2.1 : Nat) : Int))), some (.v (.int .i64 s25.1.2.1)), some (.v (.slice A9 n9 c9)), some (.v
    (.int .i64 ((n9 : Nat) : Int)))] [] ∧ next32 ((j41, (IntKind.i64.wrap (s30.1.2.1 + 1), ())), ()) H46) fun J47 => 0 ≤ (s30.1.2.1 : Int) ∧ (s30.1.2.1 : Int) < ((n9 : Nat) : Int) ∧ onPtr A9 fun b33 o33 => ∃ x34 : Int, cl
    H31 b33 (o33 + (s30.1.2.1 : Int).toNat * 4) = some (.int .i64 x34) ∧ ∃ x35 : Int, cl H31 b33 ((o33 + (s30.1.2.1 : Int).toNat * 4) + 1) = some (.int .i64 x35) ∧ ∃ x36 : Int, cl H31 b33 (((o33 + (s30.1.2.1 : Int).toNat
    * 4) + 1) + 1) = some (.int .i64 x36) ∧ ∃ x37 : Int, cl H31 b33 ((((o33 + (s30.1.2.1 : Int).toNat * 4) + 1) + 1) + 1) = some (.int .i64 x37) ∧ cnd s30.1.1 (cnd ((x35 : Int) != x29) (J47 true x34 x35 x36 x37 H31)
    (HCalls Tryz.prog 57 [.slice s22.1.2.1.1 s22.1.2.1.2.1 s22.1.2.1.2.2, .int .i64 x34] H31 fun v38 H39 => ∃ x40 : Bool, v38 = .bool x40 ∧ J47 x40 x34 x35 x36 x37 H39)) (J47 false x34 x35 x36 x37 H31)) (jn (fun (j48 :
    Bool) => cnd j48 (J52 s25.1.2.1 H31) (J52 s25.1.1 H31)) fun J49 => cnd s30.1.1 (J49 (decide ((s25.1.1 : Int) < 0))) (J49 false))) (cnd (decide ((s25.1.1 : Int) < 0)) (Q (.tuple #[.slice none 0 0, .bool false, .int
    .i64 0]) H26) (0 ≤ (s25.1.1 : Int) ∧ (s25.1.1 : Int) < ((s22.1.1.2.1 : Nat) : Int) ∧ onPtr s22.1.1.1 fun b53 o53 => ∃ x54 : Int, cl H26 b53 (o53 + (s25.1.1 : Int).toNat * 1) = some (.int .i64 x54) ∧ newF H26 3 [.int
    .i64 x54] fun g55 H56 => appendF H56 3 1 8 s22.1.2.1.1 s22.1.2.1.2.1 s22.1.2.1.2.2 (some ⟨g55, 0, none⟩) 1 fun A57 n57 c57 H58 => 0 ≤ (s25.1.1 : Int) ∧ (s25.1.1 : Int) ≤ ((s22.1.1.2.2 : Nat) : Int) ∧ 0 ≤ (s25.1.1 :
    Int) ∧ (s25.1.1 : Int) ≤ (s25.1.1 : Int) ∧ 0 ≤ (IntKind.i64.wrap (s25.1.1 + 1) : Int) ∧ (IntKind.i64.wrap (s25.1.1 + 1) : Int) ≤ ((s22.1.1.2.1 : Nat) : Int) ∧ appendF H58 3 1 8 (cutA s22.1.1.1 (0 * 1) (decide
    (((s25.1.1 : Int).toNat) = 0))) (((s25.1.1 : Int).toNat) - 0) (((s25.1.1 : Int).toNat) - 0) (cutA s22.1.1.1 (((IntKind.i64.wrap (s25.1.1 + 1) : Int).toNat) * 1) (decide (s22.1.1.2.2 = ((IntKind.i64.wrap (s25.1.1 + 1)
    : Int).toNat)))) (s22.1.1.2.1 - ((IntKind.i64.wrap (s25.1.1 + 1) : Int).toNat)) fun A59 n59 c59 H60 => KeepX [some (.v (.slice A9 n9 c9))] [] ∧ next24 (((A59, n59, c59), ((A57, n57, c57), ())), ()) H60))) (Q (.tuple
    #[.slice s22.1.2.1.1 s22.1.2.1.2.1 s22.1.2.1.2.2, .bool true, .int .i64 0]) H23))) fun J18 => HCalls Tryz.prog 58 [.pointer p6] H8 fun v10 H11 => ∃ x12 : Bool, v10 = .bool x12 ∧ cnd x12 (J18 true H11) (HCalls
    Tryz.prog 59 [.pointer p6] H11 fun v13 H14 => ∃ x15 : Bool, v13 = .bool x15 ∧ J18 x15 H14))
noncomputable def fcx30 : Cx := cx 86 [(14, true)] [(9, ⟨[6], [], [(7, .slice), (8, .slice)], []⟩), (12, ⟨[6, 7, 8, 33, 34], [], [(9, .int .i64), (35, .int .i64)], []⟩), (16, ⟨[6, 7, 8, 9, 10, 11, 33, 34, 35, 40, 41], [], [(12, .bool), (42, .int .i64)], []⟩)] [(26, (.look 0 (.look 1 (.look 2 (.look 3 (.look 4 (.look 5 (.look 6 (.look 7 (.act 8 (.act 9 .done .done) .done))))))))))] []
theorem f30.eq (pl_A : Option Addr) (pl_n pl_c : Nat) (H : Hp) (Q : Value → Hp → Prop) : f30 pl_A pl_n pl_c H Q = wFun fcx30 Tryz.f30 [.slice pl_A pl_n pl_c] H Q := by kernel_rfl
theorem f30.ok (pl_A : Option Addr) (pl_n pl_c : Nat) {H : Hp} {Q : Value → Hp → Prop} (h : f30 pl_A pl_n pl_c H Q) : HCalls Tryz.prog 30 [.slice pl_A pl_n pl_c] H Q := hcalls_of (cxOk 86 [(14, true)] [(9, ⟨[6], [], [(7, .slice), (8, .slice)], []⟩), (12, ⟨[6, 7, 8, 33, 34], [], [(9, .int .i64), (35, .int .i64)], []⟩), (16, ⟨[6, 7, 8, 9, 10, 11, 33, 34, 35, 40, 41], [], [(12, .bool), (42, .int .i64)], []⟩)] [(26, (.look 0 (.look 1 (.look 2 (.look 3 (.look 4 (.look 5 (.look 6 (.look 7 (.act 8 (.act 9 .done .done) .done))))))))))] []) Tryz.func30 (Eq.mp (f30.eq pl_A pl_n pl_c H Q) h)

/-- (*justiciar justiciarref29.history).fits -/
def f67 (ph_b ph_o : Nat) (pall : Bool) (psome_A : Option Addr) (psome_n psome_c : Nat) (H : Hp) (Q : Value → Hp → Prop) : Prop :=
  HCalls Tryz.prog 65 [.pointer (some ⟨ph_b, ph_o, none⟩)] H fun v1 H2 => ∃ (A3 : Option Addr) (n3 c3 : Nat), v1 = .slice A3 n3 c3 ∧ LoopF (σ := (Int × Unit) × Unit) ((0, ()), ()) H2 fun s4 H5 next6 => cnd (decide ((s4.1.1
    : Int) < ((n3 : Nat) : Int))) (0 ≤ (s4.1.1 : Int) ∧ (s4.1.1 : Int) < ((n3 : Nat) : Int) ∧ onPtr A3 fun b7 o7 => ∃ x8 : Int, cl H5 b7 (o7 + (s4.1.1 : Int).toNat * 1) = some (.int .i64 x8) ∧ jn (fun (j21 : Bool) (H22 :
    Hp) => cnd (!j21) (Q (.bool false) H22) (KeepX [some (.v (.pointer (some ⟨ph_b, ph_o, none⟩))), some (.v (.bool pall)), some (.v (.slice psome_A psome_n psome_c)), some (.v (.slice A3 n3 c3)), some (.v (.int .i64 ((n3
    : Nat) : Int)))] [] ∧ next6 ((IntKind.i64.wrap (s4.1.1 + 1), ()), ()) H22)) fun J23 => jn (fun (j12 : Bool) (H13 : Hp) => cnd j12 (HCalls Tryz.prog 95 [.pointer (some ⟨ph_b, ph_o, none⟩), .int .i64 x8] H13 fun v15 H16
    => ∃ x17 : Bool, v15 = .bool x17 ∧ J23 x17 H16) (HCalls Tryz.prog 96 [.pointer (some ⟨ph_b, ph_o, none⟩), .int .i64 x8] H13 fun v18 H19 => ∃ x20 : Bool, v18 = .bool x20 ∧ J23 x20 H19)) fun J14 => cnd pall (J14 true
    H5) (HCalls Tryz.prog 57 [.slice psome_A psome_n psome_c, .int .i64 x8] H5 fun v9 H10 => ∃ x11 : Bool, v9 = .bool x11 ∧ J14 x11 H10)) (Q (.bool true) H5)
noncomputable def fcx67 : Cx := cx 32 [] [(2, ⟨[0, 1, 2, 11, 12], [], [(13, .int .i64)], []⟩)] [] []
theorem f67.eq (ph_b ph_o : Nat) (pall : Bool) (psome_A : Option Addr) (psome_n psome_c : Nat) (H : Hp) (Q : Value → Hp → Prop) : f67 ph_b ph_o pall psome_A psome_n psome_c H Q = wFun fcx67 Tryz.f67 [.pointer (some ⟨ph_b, ph_o, none⟩), .bool pall, .slice psome_A psome_n psome_c] H Q := by kernel_rfl
theorem f67.ok (ph_b ph_o : Nat) (pall : Bool) (psome_A : Option Addr) (psome_n psome_c : Nat) {H : Hp} {Q : Value → Hp → Prop} (h : f67 ph_b ph_o pall psome_A psome_n psome_c H Q) : HCalls Tryz.prog 67 [.pointer (some ⟨ph_b, ph_o, none⟩), .bool pall, .slice psome_A psome_n psome_c] H Q := hcalls_of (cxOk 32 [] [(2, ⟨[0, 1, 2, 11, 12], [], [(13, .int .i64)], []⟩)] [] []) Tryz.func67 (Eq.mp (f67.eq ph_b ph_o pall psome_A psome_n psome_c H Q) h)

/-- (*justiciar justiciarref29.history).serial -/
def f95 (ph_b ph_o : Nat) (ptxn : Int) (H : Hp) (Q : Value → Hp → Prop) : Prop :=
  ∃ (A1 : Option Addr) (n1 c1 : Nat), cl H ph_b (ph_o + 0) = some (.slice A1 n1 c1) ∧ LoopF (σ := (Int × (Int × (Int × Unit))) × Unit) ((0, ((-1), (0, ()))), ()) H fun s2 H3 next4 => cnd (decide ((s2.1.2.2.1 : Int) < ((n1 :
    Nat) : Int))) (jn (fun (j11 : Int) (j12 : Int) => KeepX [some (.v (.pointer (some ⟨ph_b, ph_o, none⟩))), some (.v (.int .i64 ptxn)), some (.v (.slice A1 n1 c1)), some (.v (.int .i64 ((n1 : Nat) : Int)))] [] ∧ next4
    ((j11, (j12, (IntKind.i64.wrap (s2.1.2.2.1 + 1), ()))), ()) H3) fun J13 => 0 ≤ (s2.1.2.2.1 : Int) ∧ (s2.1.2.2.1 : Int) < ((n1 : Nat) : Int) ∧ onPtr A1 fun b5 o5 => ∃ x6 : Int, cl H3 b5 (o5 + (s2.1.2.2.1 : Int).toNat *
    5) = some (.int .i64 x6) ∧ ∃ x7 : Int, cl H3 b5 ((o5 + (s2.1.2.2.1 : Int).toNat * 5) + 1) = some (.int .i64 x7) ∧ ∃ x8 : Int, cl H3 b5 (((o5 + (s2.1.2.2.1 : Int).toNat * 5) + 1) + 1) = some (.int .i64 x8) ∧ ∃ x9 :
    Int, cl H3 b5 ((((o5 + (s2.1.2.2.1 : Int).toNat * 5) + 1) + 1) + 1) = some (.int .i64 x9) ∧ ∃ x10 : Int, cl H3 b5 (((((o5 + (s2.1.2.2.1 : Int).toNat * 5) + 1) + 1) + 1) + 1) = some (.int .i64 x10) ∧ cnd ((x7 : Int) !=
    ptxn) (J13 s2.1.1 s2.1.2.1) (cnd ((x6 : Int) == 1) (J13 (IntKind.i64.wrap (s2.1.2.2.1 + 1)) s2.1.2.1) (cnd (decide ((s2.1.2.1 : Int) < 0)) (J13 s2.1.1 s2.1.2.2.1) (J13 s2.1.1 s2.1.2.1)))) (LoopF (σ := (Int × Unit) ×
    Unit) ((s2.1.1, ()), ()) H3 fun s14 H15 next16 => cnd (decide ((s14.1.1 : Int) ≤ s2.1.2.1)) (HCalls Tryz.prog 108 [.pointer (some ⟨ph_b, ph_o, none⟩), .int .i64 ptxn, .int .i64 0, .int .i64 s14.1.1] H15 fun v17 H18 =>
    ∃ x19 : Bool, v17 = .bool x19 ∧ ∃ (A20 : Option Addr) (n20 c20 : Nat), cl H18 ph_b (ph_o + 0) = some (.slice A20 n20 c20) ∧ LoopF (σ := (Bool × (Int × Unit)) × Unit) ((x19, (0, ())), ()) H18 fun s21 H22 next23 => cnd
    (decide ((s21.1.2.1 : Int) < ((n20 : Nat) : Int))) (jn (fun (j38 : Bool) (H39 : Hp) => KeepX [some (.v (.pointer (some ⟨ph_b, ph_o, none⟩))), some (.v (.int .i64 ptxn)), some (.v (.int .i64 s2.1.2.1)), some (.v (.int
    .i64 s14.1.1)), some (.v (.slice A20 n20 c20)), some (.v (.int .i64 ((n20 : Nat) : Int)))] [] ∧ next23 ((j38, (IntKind.i64.wrap (s21.1.2.1 + 1), ())), ()) H39) fun J40 => 0 ≤ (s21.1.2.1 : Int) ∧ (s21.1.2.1 : Int) <
    ((n20 : Nat) : Int) ∧ onPtr A20 fun b24 o24 => ∃ x25 : Int, cl H22 b24 (o24 + (s21.1.2.1 : Int).toNat * 5) = some (.int .i64 x25) ∧ ∃ x26 : Int, cl H22 b24 ((o24 + (s21.1.2.1 : Int).toNat * 5) + 1) = some (.int .i64
    x26) ∧ ∃ x27 : Int, cl H22 b24 (((o24 + (s21.1.2.1 : Int).toNat * 5) + 1) + 1) = some (.int .i64 x27) ∧ ∃ x28 : Int, cl H22 b24 ((((o24 + (s21.1.2.1 : Int).toNat * 5) + 1) + 1) + 1) = some (.int .i64 x28) ∧ ∃ x29 :
    Int, cl H22 b24 (((((o24 + (s21.1.2.1 : Int).toNat * 5) + 1) + 1) + 1) + 1) = some (.int .i64 x29) ∧ jn (fun (j30 : Bool) => cnd j30 (cnd s21.1.1 (∃ (A32 : Option Addr) (n32 c32 : Nat), cl H22 ph_b (ph_o + 1) = some
    (.slice A32 n32 c32) ∧ 0 ≤ (ptxn : Int) ∧ (ptxn : Int) < ((n32 : Nat) : Int) ∧ onPtr A32 fun b33 o33 => ∃ x34 : Int, cl H22 b33 (o33 + (ptxn : Int).toNat * 1) = some (.int .i64 x34) ∧ HCalls Tryz.prog 109 [.pointer
    (some ⟨ph_b, ph_o, none⟩), .int .i64 ptxn, .int .i64 x27, .int .i64 s14.1.1, .int .i64 x34] H22 fun v35 H36 => ∃ x37 : Bool, v35 = .bool x37 ∧ J40 x37 H36) (J40 false H22)) (J40 s21.1.1 H22)) fun J31 => cnd ((x25 :
    Int) == 3) (J31 ((x26 : Int) == ptxn)) (J31 false)) (cnd s21.1.1 (Q (.bool true) H22) (KeepX [some (.v (.pointer (some ⟨ph_b, ph_o, none⟩))), some (.v (.int .i64 ptxn)), some (.v (.int .i64 s2.1.2.1))] [] ∧ next16
    ((IntKind.i64.wrap (s14.1.1 + 1), ()), ()) H22))) (Q (.bool false) H15))
noncomputable def fcx95 : Cx := cx 82 [(8, true), (12, true)] [(3, ⟨[0, 1, 16, 17], [], [(5, .int .i64), (6, .int .i64), (18, .int .i64)], []⟩), (12, ⟨[0, 1, 6], [], [(9, .int .i64)], []⟩), (16, ⟨[0, 1, 6, 9, 49, 50], [], [(10, .bool), (51, .int .i64)], []⟩)] [(19, (.look 0 (.look 1 (.look 2 (.look 3 (.look 4 (.look 5 (.look 6 (.look 7 (.look 8 (.look 9 (.look 10 (.look 11 (.look 12 (.look 13 (.act 14 (.look 15 (.act 16 .done .done)) .done))))))))))))))))] []
theorem f95.eq (ph_b ph_o : Nat) (ptxn : Int) (H : Hp) (Q : Value → Hp → Prop) : f95 ph_b ph_o ptxn H Q = wFun fcx95 Tryz.f95 [.pointer (some ⟨ph_b, ph_o, none⟩), .int .i64 ptxn] H Q := by kernel_rfl
theorem f95.ok (ph_b ph_o : Nat) (ptxn : Int) {H : Hp} {Q : Value → Hp → Prop} (h : f95 ph_b ph_o ptxn H Q) : HCalls Tryz.prog 95 [.pointer (some ⟨ph_b, ph_o, none⟩), .int .i64 ptxn] H Q := hcalls_of (cxOk 82 [(8, true), (12, true)] [(3, ⟨[0, 1, 16, 17], [], [(5, .int .i64), (6, .int .i64), (18, .int .i64)], []⟩), (12, ⟨[0, 1, 6], [], [(9, .int .i64)], []⟩), (16, ⟨[0, 1, 6, 9, 49, 50], [], [(10, .bool), (51, .int .i64)], []⟩)] [(19, (.look 0 (.look 1 (.look 2 (.look 3 (.look 4 (.look 5 (.look 6 (.look 7 (.look 8 (.look 9 (.look 10 (.look 11 (.look 12 (.look 13 (.act 14 (.look 15 (.act 16 .done .done)) .done))))))))))))))))] []) Tryz.func95 (Eq.mp (f95.eq ph_b ph_o ptxn H Q) h)

/-- (*justiciar justiciarref29.history).committed -/
def f96 (ph_b ph_o : Nat) (ptxn : Int) (H : Hp) (Q : Value → Hp → Prop) : Prop :=
  ∃ (A1 : Option Addr) (n1 c1 : Nat), cl H ph_b (ph_o + 0) = some (.slice A1 n1 c1) ∧ LoopF (σ := (Int × (Int × Unit)) × Unit) ((0, (0, ())), ()) H fun s2 H3 next4 => cnd (decide ((s2.1.2.1 : Int) < ((n1 : Nat) : Int))) (jn
    (fun (j16 : Int) (H17 : Hp) => KeepX [some (.v (.pointer (some ⟨ph_b, ph_o, none⟩))), some (.v (.int .i64 ptxn)), some (.v (.slice A1 n1 c1)), some (.v (.int .i64 ((n1 : Nat) : Int)))] [] ∧ next4 ((j16,
    (IntKind.i64.wrap (s2.1.2.1 + 1), ())), ()) H17) fun J18 => 0 ≤ (s2.1.2.1 : Int) ∧ (s2.1.2.1 : Int) < ((n1 : Nat) : Int) ∧ onPtr A1 fun b5 o5 => ∃ x6 : Int, cl H3 b5 (o5 + (s2.1.2.1 : Int).toNat * 5) = some (.int .i64
    x6) ∧ ∃ x7 : Int, cl H3 b5 ((o5 + (s2.1.2.1 : Int).toNat * 5) + 1) = some (.int .i64 x7) ∧ ∃ x8 : Int, cl H3 b5 (((o5 + (s2.1.2.1 : Int).toNat * 5) + 1) + 1) = some (.int .i64 x8) ∧ ∃ x9 : Int, cl H3 b5 ((((o5 +
    (s2.1.2.1 : Int).toNat * 5) + 1) + 1) + 1) = some (.int .i64 x9) ∧ ∃ x10 : Int, cl H3 b5 (((((o5 + (s2.1.2.1 : Int).toNat * 5) + 1) + 1) + 1) + 1) = some (.int .i64 x10) ∧ jn (fun (j11 : Bool) => cnd j11 (J18 s2.1.1
    H3) (HCalls Tryz.prog 110 [.pointer (some ⟨ph_b, ph_o, none⟩), .int .i64 ptxn, .int .i64 x10] H3 fun v13 H14 => ∃ x15 : Bool, v13 = .bool x15 ∧ cnd (!x15) (Q (.bool false) H14) (J18 x10 H14))) fun J12 => cnd ((x7 :
    Int) != ptxn) (J12 true) (cnd ((x6 : Int) != 2) (cnd ((x6 : Int) != 3) (J12 true) (J12 ((x10 : Int) == s2.1.1))) (J12 ((x10 : Int) == s2.1.1)))) (Q (.bool true) H3)
noncomputable def fcx96 : Cx := cx 45 [(7, true)] [(3, ⟨[0, 1, 11, 12], [], [(5, .int .i64), (13, .int .i64)], []⟩)] [] []
theorem f96.eq (ph_b ph_o : Nat) (ptxn : Int) (H : Hp) (Q : Value → Hp → Prop) : f96 ph_b ph_o ptxn H Q = wFun fcx96 Tryz.f96 [.pointer (some ⟨ph_b, ph_o, none⟩), .int .i64 ptxn] H Q := by kernel_rfl
theorem f96.ok (ph_b ph_o : Nat) (ptxn : Int) {H : Hp} {Q : Value → Hp → Prop} (h : f96 ph_b ph_o ptxn H Q) : HCalls Tryz.prog 96 [.pointer (some ⟨ph_b, ph_o, none⟩), .int .i64 ptxn] H Q := hcalls_of (cxOk 45 [(7, true)] [(3, ⟨[0, 1, 11, 12], [], [(5, .int .i64), (13, .int .i64)], []⟩)] [] []) Tryz.func96 (Eq.mp (f96.eq ph_b ph_o ptxn H Q) h)

/-- (*justiciar justiciarref29.history).reads -/
def f108 (ph_b ph_o : Nat) (ptxn : Int) (pstmt : Int) (pplace : Int) (H : Hp) (Q : Value → Hp → Prop) : Prop :=
  ∃ (A1 : Option Addr) (n1 c1 : Nat), cl H ph_b (ph_o + 0) = some (.slice A1 n1 c1) ∧ LoopF (σ := ((Option Addr × Nat × Nat) × (Int × Unit)) × Unit) (((none, 0, 0), (0, ())), ()) H fun s2 H3 next4 => cnd (decide ((s2.1.2.1
    : Int) < ((n1 : Nat) : Int))) (jn (fun (jA28 : Option Addr) (jn29 : Nat) (jc30 : Nat) (H31 : Hp) => KeepX [some (.v (.pointer (some ⟨ph_b, ph_o, none⟩))), some (.v (.int .i64 ptxn)), some (.v (.int .i64 pstmt)), some
    (.v (.int .i64 pplace)), some (.v (.slice A1 n1 c1)), some (.v (.int .i64 ((n1 : Nat) : Int)))] [] ∧ next4 (((jA28, jn29, jc30), (IntKind.i64.wrap (s2.1.2.1 + 1), ())), ()) H31) fun J32 => 0 ≤ (s2.1.2.1 : Int) ∧
    (s2.1.2.1 : Int) < ((n1 : Nat) : Int) ∧ onPtr A1 fun b5 o5 => ∃ x6 : Int, cl H3 b5 (o5 + (s2.1.2.1 : Int).toNat * 5) = some (.int .i64 x6) ∧ ∃ x7 : Int, cl H3 b5 ((o5 + (s2.1.2.1 : Int).toNat * 5) + 1) = some (.int
    .i64 x7) ∧ ∃ x8 : Int, cl H3 b5 (((o5 + (s2.1.2.1 : Int).toNat * 5) + 1) + 1) = some (.int .i64 x8) ∧ ∃ x9 : Int, cl H3 b5 ((((o5 + (s2.1.2.1 : Int).toNat * 5) + 1) + 1) + 1) = some (.int .i64 x9) ∧ ∃ x10 : Int, cl H3
    b5 (((((o5 + (s2.1.2.1 : Int).toNat * 5) + 1) + 1) + 1) + 1) = some (.int .i64 x10) ∧ cnd ((x7 : Int) != ptxn) (J32 s2.1.1.1 s2.1.1.2.1 s2.1.1.2.2 H3) (jn (fun (H22 : Hp) => cnd ((x6 : Int) == 3) (newF H22 3 [.int
    .i64 x8] fun g24 H25 => appendF H25 3 1 8 s2.1.1.1 s2.1.1.2.1 s2.1.1.2.2 (some ⟨g24, 0, none⟩) 1 fun A26 n26 c26 H27 => J32 A26 n26 c26 H27) (J32 s2.1.1.1 s2.1.1.2.1 s2.1.1.2.2 H22)) fun J23 => jn (fun (j11 : Bool) =>
    cnd j11 (jn (fun (j19 : Int) (H20 : Hp) => cnd ((x9 : Int) != j19) (Q (.bool false) H20) (J23 H20)) fun J21 => HCalls Tryz.prog 57 [.slice s2.1.1.1 s2.1.1.2.1 s2.1.1.2.2, .int .i64 x8] H3 fun v13 H14 => ∃ x15 : Bool,
    v13 = .bool x15 ∧ cnd (!x15) (HCalls Tryz.prog 134 [.pointer (some ⟨ph_b, ph_o, none⟩), .int .i64 x8, .int .i64 pplace] H14 fun v16 H17 => ∃ x18 : Int, v16 = .int .i64 x18 ∧ J21 x18 H17) (J21 ptxn H14)) (J23 H3)) fun
    J12 => cnd ((x6 : Int) == 2) (cnd ((pstmt : Int) == 0) (J12 true) (J12 ((x10 : Int) == pstmt))) (J12 false))) (Q (.bool true) H3)
noncomputable def fcx108 : Cx := cx 63 [(11, true)] [(3, ⟨[0, 1, 2, 3, 16, 17], [], [(9, .slice), (18, .int .i64)], []⟩)] [] []
theorem f108.eq (ph_b ph_o : Nat) (ptxn : Int) (pstmt : Int) (pplace : Int) (H : Hp) (Q : Value → Hp → Prop) : f108 ph_b ph_o ptxn pstmt pplace H Q = wFun fcx108 Tryz.f108 [.pointer (some ⟨ph_b, ph_o, none⟩), .int .i64 ptxn, .int .i64 pstmt, .int .i64 pplace] H Q := by kernel_rfl
theorem f108.ok (ph_b ph_o : Nat) (ptxn : Int) (pstmt : Int) (pplace : Int) {H : Hp} {Q : Value → Hp → Prop} (h : f108 ph_b ph_o ptxn pstmt pplace H Q) : HCalls Tryz.prog 108 [.pointer (some ⟨ph_b, ph_o, none⟩), .int .i64 ptxn, .int .i64 pstmt, .int .i64 pplace] H Q := hcalls_of (cxOk 63 [(11, true)] [(3, ⟨[0, 1, 2, 3, 16, 17], [], [(9, .slice), (18, .int .i64)], []⟩)] [] []) Tryz.func108 (Eq.mp (f108.eq ph_b ph_o ptxn pstmt pplace H Q) h)

/-- (*justiciar justiciarref29.history).still -/
def f109 (ph_b ph_o : Nat) (ptxn : Int) (pitem : Int) (pfrm : Int) (pto : Int) (H : Hp) (Q : Value → Hp → Prop) : Prop :=
  LoopF (σ := (Int × Unit) × Unit) ((pfrm, ()), ()) H fun s1 H2 next3 => cnd (decide ((s1.1.1 : Int) < pto)) (∃ (A4 : Option Addr) (n4 c4 : Nat), cl H2 ph_b (ph_o + 0) = some (.slice A4 n4 c4) ∧ 0 ≤ (s1.1.1 : Int) ∧ (s1.1.1
    : Int) < ((n4 : Nat) : Int) ∧ onPtr A4 fun b5 o5 => ∃ x6 : Int, cl H2 b5 (o5 + (s1.1.1 : Int).toNat * 5) = some (.int .i64 x6) ∧ ∃ x7 : Int, cl H2 b5 ((o5 + (s1.1.1 : Int).toNat * 5) + 1) = some (.int .i64 x7) ∧ ∃ x8
    : Int, cl H2 b5 (((o5 + (s1.1.1 : Int).toNat * 5) + 1) + 1) = some (.int .i64 x8) ∧ ∃ x9 : Int, cl H2 b5 ((((o5 + (s1.1.1 : Int).toNat * 5) + 1) + 1) + 1) = some (.int .i64 x9) ∧ ∃ x10 : Int, cl H2 b5 (((((o5 +
    (s1.1.1 : Int).toNat * 5) + 1) + 1) + 1) + 1) = some (.int .i64 x10) ∧ jn (fun (j14 : Bool) (H15 : Hp) => cnd j14 (Q (.bool false) H15) (KeepX [some (.v (.pointer (some ⟨ph_b, ph_o, none⟩))), some (.v (.int .i64
    ptxn)), some (.v (.int .i64 pitem)), some (.v (.int .i64 pto))] [] ∧ next3 ((IntKind.i64.wrap (s1.1.1 + 1), ()), ()) H15)) fun J16 => cnd ((x6 : Int) == 4) (cnd ((x7 : Int) != ptxn) (HCalls Tryz.prog 90 [.pointer
    (some ⟨ph_b, ph_o, none⟩), .int .i64 x7, .int .i64 pitem, .int .i64 0] H2 fun v11 H12 => ∃ x13 : Bool, v11 = .bool x13 ∧ J16 x13 H12) (J16 false H2)) (J16 false H2)) (Q (.bool true) H2)
noncomputable def fcx109 : Cx := cx 42 [(12, true)] [(2, ⟨[0, 1, 2, 4], [], [(11, .int .i64)], []⟩)] [] []
theorem f109.eq (ph_b ph_o : Nat) (ptxn : Int) (pitem : Int) (pfrm : Int) (pto : Int) (H : Hp) (Q : Value → Hp → Prop) : f109 ph_b ph_o ptxn pitem pfrm pto H Q = wFun fcx109 Tryz.f109 [.pointer (some ⟨ph_b, ph_o, none⟩), .int .i64 ptxn, .int .i64 pitem, .int .i64 pfrm, .int .i64 pto] H Q := by kernel_rfl
theorem f109.ok (ph_b ph_o : Nat) (ptxn : Int) (pitem : Int) (pfrm : Int) (pto : Int) {H : Hp} {Q : Value → Hp → Prop} (h : f109 ph_b ph_o ptxn pitem pfrm pto H Q) : HCalls Tryz.prog 109 [.pointer (some ⟨ph_b, ph_o, none⟩), .int .i64 ptxn, .int .i64 pitem, .int .i64 pfrm, .int .i64 pto] H Q := hcalls_of (cxOk 42 [(12, true)] [(2, ⟨[0, 1, 2, 4], [], [(11, .int .i64)], []⟩)] [] []) Tryz.func109 (Eq.mp (f109.eq ph_b ph_o ptxn pitem pfrm pto H Q) h)

/-- (*justiciar justiciarref29.history).statement -/
def f110 (ph_b ph_o : Nat) (ptxn : Int) (pstmt : Int) (H : Hp) (Q : Value → Hp → Prop) : Prop :=
  ∃ (A1 : Option Addr) (n1 c1 : Nat), cl H ph_b (ph_o + 0) = some (.slice A1 n1 c1) ∧ LoopF (σ := (Int × (Int × (Int × Unit))) × Unit) ((0, ((-1), (0, ()))), ()) H fun s2 H3 next4 => cnd (decide ((s2.1.2.2.1 : Int) < ((n1 :
    Nat) : Int))) (jn (fun (j17 : Int) (j18 : Int) => KeepX [some (.v (.pointer (some ⟨ph_b, ph_o, none⟩))), some (.v (.int .i64 ptxn)), some (.v (.int .i64 pstmt)), some (.v (.slice A1 n1 c1)), some (.v (.int .i64 ((n1 :
    Nat) : Int)))] [] ∧ next4 ((j17, (j18, (IntKind.i64.wrap (s2.1.2.2.1 + 1), ()))), ()) H3) fun J19 => 0 ≤ (s2.1.2.2.1 : Int) ∧ (s2.1.2.2.1 : Int) < ((n1 : Nat) : Int) ∧ onPtr A1 fun b5 o5 => ∃ x6 : Int, cl H3 b5 (o5 +
    (s2.1.2.2.1 : Int).toNat * 5) = some (.int .i64 x6) ∧ ∃ x7 : Int, cl H3 b5 ((o5 + (s2.1.2.2.1 : Int).toNat * 5) + 1) = some (.int .i64 x7) ∧ ∃ x8 : Int, cl H3 b5 (((o5 + (s2.1.2.2.1 : Int).toNat * 5) + 1) + 1) = some
    (.int .i64 x8) ∧ ∃ x9 : Int, cl H3 b5 ((((o5 + (s2.1.2.2.1 : Int).toNat * 5) + 1) + 1) + 1) = some (.int .i64 x9) ∧ ∃ x10 : Int, cl H3 b5 (((((o5 + (s2.1.2.2.1 : Int).toNat * 5) + 1) + 1) + 1) + 1) = some (.int .i64
    x10) ∧ cnd ((x7 : Int) != ptxn) (J19 s2.1.1 s2.1.2.1) (jn (fun (j13 : Int) => jn (fun (j15 : Bool) => cnd j15 (J19 j13 s2.1.2.2.1) (J19 j13 s2.1.2.1)) fun J16 => cnd ((x6 : Int) == 2) (cnd ((x10 : Int) == pstmt) (J16
    (decide ((s2.1.2.1 : Int) < 0))) (J16 false)) (cnd ((x6 : Int) == 3) (cnd ((x10 : Int) == pstmt) (J16 (decide ((s2.1.2.1 : Int) < 0))) (J16 false)) (J16 false))) fun J14 => jn (fun (j11 : Bool) => cnd j11 (J14
    (IntKind.i64.wrap (s2.1.2.2.1 + 1))) (J14 s2.1.1)) fun J12 => cnd ((x6 : Int) == 1) (J12 true) (cnd ((x6 : Int) == 2) (J12 (decide ((x10 : Int) < pstmt))) (cnd ((x6 : Int) == 3) (J12 (decide ((x10 : Int) < pstmt)))
    (J12 false))))) (LoopF (σ := (Int × Unit) × Unit) ((s2.1.1, ()), ()) H3 fun s20 H21 next22 => cnd (decide ((s20.1.1 : Int) ≤ s2.1.2.1)) (HCalls Tryz.prog 108 [.pointer (some ⟨ph_b, ph_o, none⟩), .int .i64 ptxn, .int
    .i64 pstmt, .int .i64 s20.1.1] H21 fun v23 H24 => ∃ x25 : Bool, v23 = .bool x25 ∧ ∃ (A26 : Option Addr) (n26 c26 : Nat), cl H24 ph_b (ph_o + 0) = some (.slice A26 n26 c26) ∧ LoopF (σ := (Bool × (Int × Unit)) × Unit)
    ((x25, (0, ())), ()) H24 fun s27 H28 next29 => cnd (decide ((s27.1.2.1 : Int) < ((n26 : Nat) : Int))) (jn (fun (j41 : Bool) (H42 : Hp) => KeepX [some (.v (.pointer (some ⟨ph_b, ph_o, none⟩))), some (.v (.int .i64
    ptxn)), some (.v (.int .i64 pstmt)), some (.v (.int .i64 s2.1.2.1)), some (.v (.int .i64 s20.1.1)), some (.v (.slice A26 n26 c26)), some (.v (.int .i64 ((n26 : Nat) : Int)))] [] ∧ next29 ((j41, (IntKind.i64.wrap
    (s27.1.2.1 + 1), ())), ()) H42) fun J43 => 0 ≤ (s27.1.2.1 : Int) ∧ (s27.1.2.1 : Int) < ((n26 : Nat) : Int) ∧ onPtr A26 fun b30 o30 => ∃ x31 : Int, cl H28 b30 (o30 + (s27.1.2.1 : Int).toNat * 5) = some (.int .i64 x31)
    ∧ ∃ x32 : Int, cl H28 b30 ((o30 + (s27.1.2.1 : Int).toNat * 5) + 1) = some (.int .i64 x32) ∧ ∃ x33 : Int, cl H28 b30 (((o30 + (s27.1.2.1 : Int).toNat * 5) + 1) + 1) = some (.int .i64 x33) ∧ ∃ x34 : Int, cl H28 b30
    ((((o30 + (s27.1.2.1 : Int).toNat * 5) + 1) + 1) + 1) = some (.int .i64 x34) ∧ ∃ x35 : Int, cl H28 b30 (((((o30 + (s27.1.2.1 : Int).toNat * 5) + 1) + 1) + 1) + 1) = some (.int .i64 x35) ∧ jn (fun (j36 : Bool) => cnd
    j36 (cnd s27.1.1 (HCalls Tryz.prog 109 [.pointer (some ⟨ph_b, ph_o, none⟩), .int .i64 ptxn, .int .i64 x33, .int .i64 s20.1.1, .int .i64 s27.1.2.1] H28 fun v38 H39 => ∃ x40 : Bool, v38 = .bool x40 ∧ J43 x40 H39) (J43
    false H28)) (J43 s27.1.1 H28)) fun J37 => cnd ((x31 : Int) == 3) (cnd ((x32 : Int) == ptxn) (J37 ((x35 : Int) == pstmt)) (J37 false)) (J37 false)) (cnd s27.1.1 (Q (.bool true) H28) (KeepX [some (.v (.pointer (some
    ⟨ph_b, ph_o, none⟩))), some (.v (.int .i64 ptxn)), some (.v (.int .i64 pstmt)), some (.v (.int .i64 s2.1.2.1))] [] ∧ next22 ((IntKind.i64.wrap (s20.1.1 + 1), ()), ()) H28))) (Q (.bool false) H21))
noncomputable def fcx110 : Cx := cx 118 [(10, true), (14, true)] [(3, ⟨[0, 1, 2, 18, 19], [], [(7, .int .i64), (8, .int .i64), (20, .int .i64)], []⟩), (12, ⟨[0, 1, 2, 8], [], [(11, .int .i64)], []⟩), (16, ⟨[0, 1, 2, 8, 11, 84, 85], [], [(12, .bool), (86, .int .i64)], []⟩)] [] []
theorem f110.eq (ph_b ph_o : Nat) (ptxn : Int) (pstmt : Int) (H : Hp) (Q : Value → Hp → Prop) : f110 ph_b ph_o ptxn pstmt H Q = wFun fcx110 Tryz.f110 [.pointer (some ⟨ph_b, ph_o, none⟩), .int .i64 ptxn, .int .i64 pstmt] H Q := by kernel_rfl
theorem f110.ok (ph_b ph_o : Nat) (ptxn : Int) (pstmt : Int) {H : Hp} {Q : Value → Hp → Prop} (h : f110 ph_b ph_o ptxn pstmt H Q) : HCalls Tryz.prog 110 [.pointer (some ⟨ph_b, ph_o, none⟩), .int .i64 ptxn, .int .i64 pstmt] H Q := hcalls_of (cxOk 118 [(10, true), (14, true)] [(3, ⟨[0, 1, 2, 18, 19], [], [(7, .int .i64), (8, .int .i64), (20, .int .i64)], []⟩), (12, ⟨[0, 1, 2, 8], [], [(11, .int .i64)], []⟩), (16, ⟨[0, 1, 2, 8, 11, 84, 85], [], [(12, .bool), (86, .int .i64)], []⟩)] [] []) Tryz.func110 (Eq.mp (f110.eq ph_b ph_o ptxn pstmt H Q) h)

/-- (*justiciar justiciarref29.history).last -/
def f134 (ph_b ph_o : Nat) (pitem : Int) (pn : Int) (H : Hp) (Q : Value → Hp → Prop) : Prop :=
  ∃ (A1 : Option Addr) (n1 c1 : Nat), cl H ph_b (ph_o + 0) = some (.slice A1 n1 c1) ∧ 0 ≤ (pn : Int) ∧ (pn : Int) ≤ ((c1 : Nat) : Int) ∧ LoopF (σ := (Int × (Int × Unit)) × Unit) ((0, (0, ())), ()) H fun s2 H3 next4 => cnd
    (decide ((s2.1.2.1 : Int) < ((((pn : Int).toNat) - 0 : Nat) : Int))) (jn (fun (j17 : Int) (H18 : Hp) => KeepX [some (.v (.pointer (some ⟨ph_b, ph_o, none⟩))), some (.v (.int .i64 pitem)), some (.v (.slice (cutA A1 (0
    * 5) (decide (c1 = 0))) (((pn : Int).toNat) - 0) (c1 - 0))), some (.v (.int .i64 ((((pn : Int).toNat) - 0 : Nat) : Int)))] [] ∧ next4 ((j17, (IntKind.i64.wrap (s2.1.2.1 + 1), ())), ()) H18) fun J19 => 0 ≤ (s2.1.2.1 :
    Int) ∧ (s2.1.2.1 : Int) < ((((pn : Int).toNat) - 0 : Nat) : Int) ∧ onPtr (cutA A1 (0 * 5) (decide (c1 = 0))) fun b5 o5 => ∃ x6 : Int, cl H3 b5 (o5 + (s2.1.2.1 : Int).toNat * 5) = some (.int .i64 x6) ∧ ∃ x7 : Int, cl
    H3 b5 ((o5 + (s2.1.2.1 : Int).toNat * 5) + 1) = some (.int .i64 x7) ∧ ∃ x8 : Int, cl H3 b5 (((o5 + (s2.1.2.1 : Int).toNat * 5) + 1) + 1) = some (.int .i64 x8) ∧ ∃ x9 : Int, cl H3 b5 ((((o5 + (s2.1.2.1 : Int).toNat *
    5) + 1) + 1) + 1) = some (.int .i64 x9) ∧ ∃ x10 : Int, cl H3 b5 (((((o5 + (s2.1.2.1 : Int).toNat * 5) + 1) + 1) + 1) + 1) = some (.int .i64 x10) ∧ jn (fun (j14 : Bool) (H15 : Hp) => cnd j14 (J19 x7 H15) (J19 s2.1.1
    H15)) fun J16 => cnd ((x6 : Int) == 4) (HCalls Tryz.prog 90 [.pointer (some ⟨ph_b, ph_o, none⟩), .int .i64 x7, .int .i64 pitem, .int .i64 0] H3 fun v11 H12 => ∃ x13 : Bool, v11 = .bool x13 ∧ J16 x13 H12) (J16 false
    H3)) (Q (.int .i64 s2.1.1) H3)
noncomputable def fcx134 : Cx := cx 35 [(9, true)] [(3, ⟨[0, 1, 15, 16], [], [(7, .int .i64), (17, .int .i64)], []⟩)] [] []
theorem f134.eq (ph_b ph_o : Nat) (pitem : Int) (pn : Int) (H : Hp) (Q : Value → Hp → Prop) : f134 ph_b ph_o pitem pn H Q = wFun fcx134 Tryz.f134 [.pointer (some ⟨ph_b, ph_o, none⟩), .int .i64 pitem, .int .i64 pn] H Q := by kernel_rfl
theorem f134.ok (ph_b ph_o : Nat) (pitem : Int) (pn : Int) {H : Hp} {Q : Value → Hp → Prop} (h : f134 ph_b ph_o pitem pn H Q) : HCalls Tryz.prog 134 [.pointer (some ⟨ph_b, ph_o, none⟩), .int .i64 pitem, .int .i64 pn] H Q := hcalls_of (cxOk 35 [(9, true)] [(3, ⟨[0, 1, 15, 16], [], [(7, .int .i64), (17, .int .i64)], []⟩)] [] []) Tryz.func134 (Eq.mp (f134.eq ph_b ph_o pitem pn H Q) h)

end Go.Proofs.YtibhpoikhkokiaaGreat.Hw
