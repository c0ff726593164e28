/- HwRow Vg Vl HwFg Wa Wb HwFh We (joined by merge.py) -/
import Derived.Test.YtibhpoikhkokiaaGreatFts4
import Derived.ChangeReads
import Derived.ChangeSame
import Derived.Deep.Slices
import Derived.SizedLaws
import Derived.Test.YtibhpoikhkokiaaGreatFts9
import Derived.Test.YtibhpoikhkokiaaGreatRows
import Derived.ProofKit
import Derived.Test.YtibhpoikhkokiaaGreatFts3
/- From a function's contract to its row: what came in reads as it did. -/
set_option linter.unusedVariables false
set_option linter.unusedSimpArgs false
namespace Go.Proofs.YtibhpoikhkokiaaGreat.Hw
open Go
section
variable {H : Type} {enc : TypeId × Value → H} {P : Program} {w w' : World} {base : Nat} {sp : Nat → Bool}
theorem mapM_len {α β : Type} {f : α → Option β} : ∀ {l : List α} {r : List β}, l.mapM f = some r → r.length = l.length
  | [], r, h => by simp at h; subst h; rfl
  | x :: l, r, h => by
    rw [List.mapM_cons] at h
    simp only [bind, Option.bind_eq_some_iff, pure, Option.some.injEq] at h
    obtain ⟨y, _, r', h2, rfl⟩ := h
    simp [mapM_len h2]
/-- A type's parts lie in the table, and a slice's elements take a cell. -/
def partsB (P : Program) (d : Option TypeDesc) : Bool := match d with
  | some (.slice e) => decide (0 < P.cellsOf e) && decide (e < P.types.size)
  | some (.pointer e) => decide (e < P.types.size)
  | some (.struct fs) => fs.toList.all fun f => decide (f.type < P.types.size)
  | some (.array _ e) => decide (e < P.types.size)
  | some (.map _ e) => decide (e < P.types.size)
  | _ => true
/-- So for all types of the table. -/
def cellsB (P : Program) : Bool := (List.range P.types.size).all fun t => partsB P (P.underlying t)
theorem cellsB_ok (h : cellsB P = true) {t : TypeId} (ht : t < P.types.size) : partsB P (P.underlying t) = true := List.all_eq_true.1 h t (List.mem_range.2 ht)
/-- The reading of all cells of a slice is one that is told where to look for more. -/
theorem trodStep_spare {r r' : TypeId → List Value → Option (DataW H × List MemPlace)} {t : TypeId} (hz : partsB P (P.underlying t) = true)
    (hr : ∀ t cs x, t < P.types.size → r t cs = some x → (∀ p ∈ x.2, sp p.block = true) → r' t cs = some x) {cs : List Value} {x : DataW H × List MemPlace}
    (h : DataW.trodStep enc P w base (fun _ => true) true r t cs = some x) (hs : ∀ p ∈ x.2, sp p.block = true) : DataW.trodStep enc P w base sp true r' t cs = some x := by
  unfold DataW.trodStep at h ⊢
  split at h
  case h_6 e a hu =>
    rw [hu] at hz
    have he : e < P.types.size := of_decide_eq_true hz
    simp only [Option.map_eq_some_iff, Option.bind_eq_some_iff] at h ⊢
    obtain ⟨y, ⟨cs', hc, hy⟩, rfl⟩ := h
    exact ⟨y, ⟨cs', hc, hr _ _ _ he hy (fun p hp => hs p (by simp [hp]))⟩, rfl⟩
  case h_8 e a len cap hu =>
    rw [hu] at hz
    simp only [partsB, Bool.and_eq_true, decide_eq_true_eq] at hz
    obtain ⟨hz0, he⟩ := hz
    simp only at h ⊢
    split at h
    · rename_i hc
      rw [if_pos hc]
      simp only [if_true, Option.map_eq_some_iff, Option.bind_eq_some_iff] at h ⊢
      obtain ⟨elems, h1, rest, h2, rfl⟩ := h
      have g : ∀ i y, ((w.cells? base (a.add (i * P.cellsOf e)) (P.cellsOf e)).bind (r e)) = some y → (y ∈ elems ∨ y ∈ rest) → ((w.cells? base (a.add (i * P.cellsOf e)) (P.cellsOf e)).bind (r' e)) = some y := fun i y hy hm => by
        simp only [Option.bind_eq_some_iff] at hy ⊢
        obtain ⟨cs', hc', hy⟩ := hy
        exact ⟨cs', hc', hr _ _ _ he hy (fun p hp => hs p (by
          simp only [List.mem_append, List.mem_flatMap]
          exact .inr ⟨y, hm, hp⟩))⟩
      refine ⟨elems, mapM_carry h1 (fun i y _ hm hy => g i y hy (.inl hm)), rest, ?_, rfl⟩
      have hl2 : rest.length = cap - len := by
        have := mapM_len h2
        simpa using this
      by_cases hspa : sp a.block = true
      · rw [if_pos hspa]
        exact mapM_carry h2 (fun j y _ hm hy => g (len + j) y hy (.inr hm))
      · rw [if_neg hspa]
        have h0 : (elems.length + rest.length) * P.cellsOf e = 0 := by
          refine Classical.byContradiction fun hne => hspa ?_
          have := hs (.cell a.block (a.off + 0)) (by
            simp only [List.mem_append]
            exact .inl (MemPlace.mem_row.2 ⟨0, by omega, rfl⟩))
          exact this
        have : rest.length = 0 := by
          rcases Nat.mul_eq_zero.1 h0 with h3 | h3 <;> omega
        rw [List.length_eq_zero_iff.1 this]
    · cases h
  all_goals first | exact h | skip
  case h_9 fs hu =>
    rw [hu] at hz
    simp only [partsB, List.all_eq_true, decide_eq_true_eq] at hz
    split at h
    · rename_i hc
      rw [if_pos hc]
      simp only [Option.map_eq_some_iff] at h ⊢
      obtain ⟨xs, h1, rfl⟩ := h
      exact ⟨xs, mapM_carry h1 (fun f y hf hm hy => hr _ _ _ (hz f hf) hy (fun p hp => hs p (by
        simp only [List.mem_flatMap]
        exact ⟨y, hm, hp⟩))), rfl⟩
    · cases h
  case h_10 n e hu =>
    rw [hu] at hz
    have he : e < P.types.size := of_decide_eq_true hz
    split at h
    · rename_i hc
      rw [if_pos hc]
      simp only [Option.map_eq_some_iff] at h ⊢
      obtain ⟨xs, h1, rfl⟩ := h
      exact ⟨xs, mapM_carry h1 (fun f y _ hm hy => hr _ _ _ he hy (fun p hp => hs p (by
        simp only [List.mem_flatMap]
        exact ⟨y, hm, hp⟩))), rfl⟩
    · cases h
  case h_14 k e b hu =>
    rw [hu] at hz
    have he : e < P.types.size := of_decide_eq_true hz
    split at h
    · rename_i es clock hm
      simp only
      split at h
      · rename_i hc
        rw [if_pos hc]
        simp only [Option.bind_eq_some_iff] at h ⊢
        obtain ⟨entries, h1, h2⟩ := h
        split at h2
        · rename_i hri
          cases h2
          refine ⟨entries, mapM_carry h1 (fun y z _ hmem hy => ?_), by rw [if_pos hri]⟩
          simp only [Option.bind_eq_some_iff] at hy ⊢
          obtain ⟨key, hk, hy⟩ := hy
          refine ⟨key, hk, ?_⟩
          split at hy
          · rename_i hf
            rw [if_pos hf]
            simp only [Option.map_eq_some_iff] at hy ⊢
            obtain ⟨u, hu2, rfl⟩ := hy
            exact ⟨u, hr _ _ _ he hu2 (fun p hp => hs p (by
              simp only [List.mem_cons, List.mem_flatMap]
              exact .inr ⟨_, hmem, hp⟩)), rfl⟩
          · cases hy
        · cases h2
      · cases h
    · cases h
theorem trod_spare (hz : cellsB P = true) : ∀ (n : Nat) (t : TypeId) (cs : List Value) (x : DataW H × List MemPlace), t < P.types.size →
    DataW.trod enc P w base (fun _ => true) true n t cs = some x → (∀ p ∈ x.2, sp p.block = true) → DataW.trod enc P w base sp true n t cs = some x := by
  intro n
  induction n with
  | zero => intro t cs x _ h; simp [DataW.trod] at h
  | succ n ih =>
    intro t cs x ht h hs
    rw [DataW.trod_step] at h ⊢
    exact trodStep_spare (cellsB_ok hz ht) ih h hs
/-- What came in reads as it did, in a world in which all that was there stays. -/
theorem trodAll_again (hz : cellsB P = true) (hh : ∀ (b : Nat) o, w.heap[b]? = some o → w'.heap[b]? = some o) : ∀ {ts : List TypeId} {vs : List Value} {ds : List (DataW H)} {ps : List MemPlace}, (∀ t ∈ ts, t < P.types.size) →
    DataW.TrodAll enc P w base (fun _ => true) true ts vs ds ps → (∀ p ∈ ps, p.block < w.heap.size) → (∀ p ∈ ps, sp p.block = true) → DataW.TrodAll enc P w' base sp true ts vs ds ps
  | [], vs, ds, ps, _, h, _, _ => by
    obtain ⟨rfl, rfl, rfl⟩ := ChangeShapes.trodAll_nil h
    rfl
  | t :: ts, vs, ds, ps, hts, h, hl, hs => by
    obtain ⟨v, vs', d, ds', a, b, rfl, rfl, rfl, ⟨n, h1⟩, h2⟩ := ChangeShapes.trodAll_cons h
    have hold : ∀ p : MemPlace, p.block < w.heap.size → w'.heap[p.block]? = w.heap[p.block]? := fun p hp => by
      rw [Array.getElem?_eq_getElem hp]
      exact hh _ _ (Array.getElem?_eq_getElem hp)
    have same : ∀ p ∈ a, w.sameAt w' p := fun p hp => by
      have := hold p (hl p (List.mem_append_left _ hp))
      cases p with
      | cell b off => unfold World.sameAt World.cell?; simp only [MemPlace.block] at this; simp only [this]
      | map b => exact this
    exact ⟨a, b, ⟨n, DataW.trod_carry n t _ _ (trod_spare hz n t _ _ (hts t List.mem_cons_self) h1 (fun p hp => hs p (List.mem_append_left _ hp))) same⟩, trodAll_again hz hh (fun t ht => hts t (List.mem_cons_of_mem _ ht)) h2 (fun p hp => hl p (List.mem_append_right _ hp)) (fun p hp => hs p (List.mem_append_right _ hp)), rfl⟩
/-- The row's word for a function that only looks, and makes new memory. -/
theorem post_look {f : Func} {s : ChangeSpec} {apart fresh handsOn again : Bool} {W W' : World} {args : Array Value} {v : Value} {ds gs : List (DataW H)} {before : List MemPlace}
    (hz : cellsB P = true) (hps : ∀ t ∈ f.params.toList, t < P.types.size) (hW : DataW.Whole enc P f.params.toList s.vars apart W args.toList ds gs before) (hsv : s.vars = []) (hargs : (s.fn H (ds ++ gs)).args = ds) (hv2 : (s.fn H (ds ++ gs)).vars = [])
    (hres : ∀ (b : Nat) (sp : Nat → Bool) (hd : Bool), DataW.TrodAll enc P W' b sp hd f.resultTypes.toList (v.resultList f.resultTypes.size) (s.fn H (ds ++ gs)).results [])
    (hh : ∀ (b : Nat) o, W.heap[b]? = some o → W'.heap[b]? = some o) (hos : W'.os = W.os) (hout : W'.output = W.output)
    (hok : ∀ (j : Nat) (t : TypeId) (r : Value), f.resultTypes[j]? = some t → (v.resultList f.resultTypes.size)[j]? = some r → Value.okWide P W' .any 0 t r) :
    s.post enc P f apart fresh handsOn again W args v W' := by
  have hlt : ∀ p ∈ before, p.block < W.heap.size := fun p hp => hW.lt p hp
  have hold : ∀ p ∈ before, (fun b => decide (b < W.heap.size)) p.block = true := fun p hp => by simpa using hlt p hp
  have hW' := hW
  obtain ⟨pa, pv, hA, hV, hpe, hnf, hnd⟩ := hW'
  rw [hsv] at hV
  obtain ⟨hgs, hpv⟩ := ChangeShapes.trodVars_none hV
  subst hpv
  rw [List.append_nil] at hpe
  subst hpe
  have ag : ∀ sp : Nat → Bool, (∀ p ∈ before, sp p.block = true) → DataW.TrodAll enc P W' 0 sp true f.params.toList args.toList (s.fn H (ds ++ gs)).args before := fun sp hsp => by
    rw [hargs]
    exact trodAll_again hz hh hps hA hlt hsp
  have av : ∀ sp : Nat → Bool, DataW.TrodVars enc P W' sp s.vars (s.fn H (ds ++ gs)).vars [] := fun sp => by
    rw [hsv, hv2]
    exact rfl
  have same : ∀ b, b < W.heap.size → W'.heap[b]? = W.heap[b]? := fun b hb => by
    rw [Array.getElem?_eq_getElem hb]; exact hh _ _ (Array.getElem?_eq_getElem hb)
  refine ⟨ds, gs, before, [], before, [], hW, hres _ _ _, ag _ hold, av _, ⟨hos, hout, fun i hi => ?_⟩, fun _ => ?_⟩
  · rw [same i hi]
    cases hx : W.heap[i]? with
    | none => rfl
    | some o =>
      cases o with
      | cells c t fr => exact ⟨rfl, rfl, rfl, fun _ _ => rfl⟩
      | map es clock => exact .inr ⟨rfl, rfl⟩
      | _ => rfl
  · refine ⟨hok, _, _, ([] ++ before) ++ [], ⟨[] ++ before, [], ChangeShapes.trodAll_append (ag _ (fun _ _ => rfl)) (hres _ _ _), av _, rfl, ?_, ?_⟩, ?_⟩
    · intro b off hp
      have hp' : MemPlace.cell b off ∈ before := by simpa using hp
      have h1 := hnf b off hp'
      unfold World.frozen? at h1 ⊢
      rw [same b (hlt _ hp')]
      exact h1
    · intro ha
      have := hnd ha
      simpa using this
    · intro p hp _
      simpa using hp
/-- The whole heap of a world. -/
def hpOf (w : World) : Hp := fun b => w.heap[b]?
theorem cl_hp {b o : Nat} {v : Value} (h : w.cell? ⟨b, o, none⟩ = some v) : cl (hpOf w) b o = some v := by
  unfold World.cell? at h
  unfold cl hpOf
  split at h
  · rename_i c _ _ hb
    simp only at hb
    rw [hb]
    simpa using h
  · cases h
/-- A datum of which no part is too large. -/
def Sz (P : Program) (t : TypeId) (d : DataW H) : Prop := ∀ n ∈ d.weights P t, n ≤ reachBytes
theorem mem_all {e : TypeId} {d : DataW H} {n : Nat} : ∀ {l : List (DataW H)}, d ∈ l → n ∈ d.weights P e → n ∈ DataW.weightsAll P e l
  | x :: r, h, hn => by
    simp only [DataW.weightsAll, List.mem_append]
    rcases List.mem_cons.1 h with h | h
    · subst h; exact .inl hn
    · exact .inr (mem_all h hn)
/-- A slice that came in: its cells, element by element. -/
theorem open_cells {spare : Nat → Bool} {held : Bool} {t e : TypeId} {fuel : Nat} {cs : List Value} {x : DataW H × List MemPlace} (ht : P.underlying t = some (.slice e)) (hC : 0 < P.cellsOf e) (hB : 0 < P.bytesOf e) (hsz : Sz P t x.1) (h : DataW.trod enc P w base spare held fuel t cs = some x) :
    ∃ (A : Option Addr) (n c : Nat) (f : Nat → List Value), cs = [.slice A n c] ∧ n ≤ reachBytes ∧ cellsAt (hpOf w) A ((List.range n).flatMap f) ∧ ∀ i, i < n → (f i).length = P.cellsOf e ∧ ∃ m y, Sz P e y.1 ∧ DataW.trod enc P w base spare held m e (f i) = some y := by
  rcases Go.Deep.open_slice ht h with ⟨rfl, _⟩ | ⟨a, len, cap, m, n, D, Pl, rfl, hb, hl, hm, hmm, hx, hi⟩
  · exact ⟨none, 0, 0, fun _ => [], rfl, by omega, .inl rfl, fun i hi => by omega⟩
  have hlm : len ≤ m := by rw [hmm]; split <;> omega
  have hsz' : (∀ k, k = (len + (m - len)) * P.bytesOf e → k ≤ reachBytes) ∧ ∀ i, i < len → Sz P e (D i) := by
    rw [hx] at hsz
    unfold Sz at hsz
    simp only [DataW.weights, ht, List.length_map, List.length_range, List.mem_cons, List.mem_append] at hsz
    exact ⟨fun k hk => hsz k (.inl hk), fun i hi k hk => hsz k (.inr (.inl (mem_all (List.mem_map_of_mem (f := D) (List.mem_range.2 hi)) hk)))⟩
  have hlr : len ≤ reachBytes := by
    have h1 := hsz'.1 _ rfl
    have h2 : len * 1 ≤ (len + (m - len)) * P.bytesOf e := Nat.mul_le_mul (by omega) hB
    omega
  refine ⟨some a, len, cap, fun i => (w.cells? base (a.add (i * P.cellsOf e)) (P.cellsOf e)).getD [], rfl, hlr, ?_, fun i him => ?_⟩
  rotate_left
  · obtain ⟨cs', hc, ht'⟩ := hi i (by omega)
    refine ⟨?_, n, _, hsz'.2 i him, by simp only [hc, Option.getD_some]; exact ht'⟩
    simp only [hc, Option.getD_some]
    exact (World.cells?_some hc).2.1
  by_cases h0 : len = 0
  · subst h0; exact .inl rfl
  · obtain ⟨cs0, hc0, _⟩ := hi 0 (by omega)
    have hs0 := (World.cells?_some hc0).2.2 0 hC
    have hsp : a.spot = none := by
      obtain ⟨_, hl0, hat⟩ := World.cells?_some hc0
      have h1 := hat 0 hC
      rw [Nat.zero_mul] at h1
      have h2 : (a.add 0).add 0 = a := rfl
      rw [h2, List.getElem?_eq_getElem (by omega)] at h1
      unfold World.cell? at h1
      split at h1
      · split at h1
        · cases h1
        · rename_i hn
          cases hsp : a.spot with
          | none => rfl
          | some q => rw [hsp] at hn; simp at hn
      · cases h1
    obtain ⟨b, o, q⟩ := a
    simp only at hsp
    subst hsp
    have hadd : ∀ o k, (⟨b, o, none⟩ : Addr).add k = ⟨b, o + k, none⟩ := fun o k => by
      unfold Addr.add
      by_cases hk : k = 0
      · subst hk; rfl
      · simp [hk]
    refine .inr ⟨b, o, rfl, fun j v hj => ?_⟩
    have hlen : ∀ i ∈ List.range len, ((w.cells? base ((⟨b, o, none⟩ : Addr).add (i * P.cellsOf e)) (P.cellsOf e)).getD []).length = P.cellsOf e := fun i him => by
      obtain ⟨cs', hc, _⟩ := hi i (by have := List.mem_range.1 him; omega)
      simp only [hc, Option.getD_some]
      exact (World.cells?_some hc).2.1
    have hjl : j < len * P.cellsOf e := by
      have := (List.getElem?_eq_some_iff.1 hj).1
      rw [flat_length hlen, List.length_range] at this
      exact this
    have hdm : j = j / P.cellsOf e * P.cellsOf e + j % P.cellsOf e := by
      have := Nat.div_add_mod j (P.cellsOf e)
      rw [Nat.mul_comm] at this
      exact this.symm
    have hil : j / P.cellsOf e < len := Nat.div_lt_of_lt_mul (by rw [Nat.mul_comm]; exact hjl)
    have hql : j % P.cellsOf e < P.cellsOf e := Nat.mod_lt _ hC
    rw [hdm, flat_get hlen (x := j / P.cellsOf e) (by simp [hil]) hql] at hj
    obtain ⟨cs', hc, _⟩ := hi (j / P.cellsOf e) (by omega)
    simp only [hc, Option.getD_some] at hj
    have h3 := (World.cells?_some hc).2.2 _ hql
    rw [hj, hadd, hadd] at h3
    have h4 := cl_hp h3
    rw [Nat.add_assoc, ← hdm] at h4
    exact h4
end
end Go.Proofs.YtibhpoikhkokiaaGreat.Hw

/- Histories: HistoryFitting walked (c3), and what comes in, opened. -/
set_option linter.unusedVariables false
set_option linter.unusedSimpArgs false
set_option maxRecDepth 100000
namespace Go.Proofs.YtibhpoikhkokiaaGreat.Hw
open Go Go.Proofs
section
variable {H H' : Hp} {Q : Value → Hp → Prop}
theorem c10 {A : Option Addr} {n c : Nat} (hq : Q (.bool (decide ((n : Int) > 120))) H) : HCalls Tryz.prog 10 [.slice A n c] H Q := by
  refine f10.ok _ _ _ ?_
  unfold f10; exact hq
end
/-! ### what comes in -/
theorem u22 : Tryz.prog.underlying 22 = some (.slice 35) := by kernel_rfl
theorem u23 : Tryz.prog.underlying 23 = some (.slice 3) := by kernel_rfl
theorem u4 : Tryz.prog.underlying 4 = some .bool := by kernel_rfl
theorem u3 : Tryz.prog.underlying 3 = some (.int .i64) := by kernel_rfl
theorem u33 : Tryz.prog.underlying 33 = some (.int .i64) := by kernel_rfl
theorem z35 : Tryz.prog.cellsOf 35 = 5 := by kernel_rfl
theorem z3 : Tryz.prog.cellsOf 3 = 1 := by kernel_rfl
theorem z33 : Tryz.prog.cellsOf 33 = 1 := by kernel_rfl
theorem y35 : 0 < Tryz.prog.bytesOf 35 := of_decide_eq_true (by kernel_rfl)
theorem y3 : 0 < Tryz.prog.bytesOf 3 := of_decide_eq_true (by kernel_rfl)
def chkE (d : Option TypeDesc) : Bool := match d with
  | some (.struct fs) => (match fs.toList with
    | [f0, f1, f2, f3, f4] => Nat.beq f0.type 33 && Nat.beq f0.offset 0 && Nat.beq f1.type 3 && Nat.beq f1.offset 1 && Nat.beq f2.type 3 && Nat.beq f2.offset 2 && Nat.beq f3.type 3 && Nat.beq f3.offset 3 && Nat.beq f4.type 3 && Nat.beq f4.offset 4
    | _ => false)
  | _ => false
theorem k35 : chkE (Tryz.prog.underlying 35) = true := by kernel_rfl
section
variable {X : Type} {enc : TypeId × Value → X} {w : World} {base : Nat} {spare : Nat → Bool} {held : Bool} {fuel : Nat} {cs : List Value} {x : DataW X × List MemPlace}
theorem flat_choose {α : Type} {f : Nat → List Value} {g : α → List Value} : ∀ {n : Nat}, (∀ i, i < n → ∃ a, f i = g a) → ∃ l : List α, l.length = n ∧ (List.range n).flatMap f = l.flatMap g
  | 0, _ => ⟨[], rfl, rfl⟩
  | n + 1, h => by
    obtain ⟨l, h1, h2⟩ := flat_choose (n := n) (fun i hi => h i (by omega))
    obtain ⟨a, ha⟩ := h n (by omega)
    refine ⟨l ++ [a], by simp [h1], ?_⟩
    rw [List.range_succ, List.flatMap_append, List.flatMap_append, h2]
    simp [ha]
theorem open_ev (h : DataW.trod enc Tryz.prog w base spare held fuel 35 cs = some x) : ∃ a : Ev, cs = evC a := by
  have hk := k35
  cases hu : Tryz.prog.underlying 35 with
  | none => rw [hu] at hk; cases hk
  | some d =>
    rw [hu] at hk
    unfold chkE at hk
    split at hk
    · rename_i fs hfs
      cases hfs
      split at hk
      · rename_i f0 f1 f2 f3 f4 hl
        have : fs = #[f0, f1, f2, f3, f4] := Array.ext' hl
        subst this
        simp only [Bool.and_eq_true] at hk
        obtain ⟨⟨⟨⟨⟨⟨⟨⟨⟨a0, b0⟩, a1⟩, b1⟩, a2⟩, b2⟩, a3⟩, b3⟩, a4⟩, b4⟩ := hk
        have a0 := Nat.eq_of_beq_eq_true a0
        have a1 := Nat.eq_of_beq_eq_true a1
        have a2 := Nat.eq_of_beq_eq_true a2
        have a3 := Nat.eq_of_beq_eq_true a3
        have a4 := Nat.eq_of_beq_eq_true a4
        have b0 := Nat.eq_of_beq_eq_true b0
        have b1 := Nat.eq_of_beq_eq_true b1
        have b2 := Nat.eq_of_beq_eq_true b2
        have b3 := Nat.eq_of_beq_eq_true b3
        have b4 := Nat.eq_of_beq_eq_true b4
        obtain ⟨xs, n, _, hx, hlen, hxl, hf⟩ := DataW.trod_struct hu h
        rw [z35] at hlen
        match cs, hlen, xs, hxl with
        | [v0, v1, v2, v3, v4], _, [y0, y1, y2, y3, y4], _ =>
          have e0 := hf 0 f0 rfl
          have e1 := hf 1 f1 rfl
          have e2 := hf 2 f2 rfl
          have e3 := hf 3 f3 rfl
          have e4 := hf 4 f4 rfl
          rw [a0, b0, z33] at e0
          rw [a1, b1, z3] at e1
          rw [a2, b2, z3] at e2
          rw [a3, b3, z3] at e3
          rw [a4, b4, z3] at e4
          obtain ⟨o0, h0, _⟩ := DataW.trod_int u33 e0
          obtain ⟨o1, h1, _⟩ := DataW.trod_int u3 e1
          obtain ⟨o2, h2, _⟩ := DataW.trod_int u3 e2
          obtain ⟨o3, h3, _⟩ := DataW.trod_int u3 e3
          obtain ⟨o4, h4, _⟩ := DataW.trod_int u3 e4
          simp at h0 h1 h2 h3 h4
          exact ⟨⟨o0, o1, o2, o3, o4⟩, by rw [h0, h1, h2, h3, h4]; rfl⟩
      · cases hk
    · cases hk
theorem open_cap {t e : TypeId} (ht : Tryz.prog.underlying t = some (.slice e)) (h : DataW.trod enc Tryz.prog w base spare held fuel t cs = some x) {A : Option Addr} {n c : Nat} (hc : cs = [.slice A n c]) : n ≤ c := by
  rcases Go.Deep.open_slice ht h with ⟨rfl, _⟩ | ⟨a, len, cap, m, n', D, Pl, rfl, hb, hl, _⟩
  · cases hc; exact Nat.le_refl _
  · cases hc; omega
theorem open_evs (hsz : Sz Tryz.prog 22 x.1) (h : DataW.trod enc Tryz.prog w base spare held fuel 22 cs = some x) : ∃ A n c l, cs = [.slice A n c] ∧ SlAt evC (hpOf w) A n l ∧ n ≤ c := by
  obtain ⟨A, n, c, f, rfl, hm, hc, hf⟩ := open_cells u22 (by rw [z35]; decide) y35 hsz h
  obtain ⟨l, h1, h2⟩ := flat_choose (g := evC) (n := n) (f := f) fun i hi => by
    obtain ⟨_, m, y, _, hy⟩ := hf i hi
    exact open_ev hy
  refine ⟨A, n, c, l, rfl, ⟨h1.symm, by rw [← h2]; exact hc, ?_⟩, open_cap u22 h rfl⟩
  rw [h1]; unfold huge; unfold reachBytes at hm; omega
theorem open_nums (hsz : Sz Tryz.prog 23 x.1) (h : DataW.trod enc Tryz.prog w base spare held fuel 23 cs = some x) : ∃ A n c l, cs = [.slice A n c] ∧ SlAt inC (hpOf w) A n l := by
  obtain ⟨A, n, c, f, rfl, hm, hc, hf⟩ := open_cells u23 (by rw [z3]; decide) y3 hsz h
  obtain ⟨l, h1, h2⟩ := flat_choose (g := inC) (n := n) (f := f) fun i hi => by
    obtain ⟨_, m, y, hys, hy⟩ := hf i hi
    obtain ⟨k, hk, _⟩ := DataW.trod_int u3 hy
    exact ⟨k, hk⟩
  refine ⟨A, n, c, l, rfl, ⟨h1.symm, by rw [← h2]; exact hc, ?_⟩⟩
  rw [h1]; unfold huge; unfold reachBytes at hm; omega
end
open Go.ChangeShapes Go.WideShapes Go.ChangeAt Go.RowKit
theorem ownK : ownKnob Tryz.prog.godebug = none := by kernel_rfl
theorem cellsB_prog : cellsB Tryz.prog = true := by kernel_rfl
/-- A Boolean result's reading. -/
theorem res_bool {X : Type} {enc : TypeId × Value → X} {W : World} (b : Nat) (sp : Nat → Bool) (hd : Bool) (x : Bool) : DataW.TrodAll enc Tryz.prog W b sp hd [4] [.bool x] [.lit (.bool x)] [] :=
  trodAll_mk1 ⟨1, by simp only [DataW.trod, Value.cells, u4]⟩
theorem ok_bool {W : World} (x : Bool) : Value.okWide Tryz.prog W .any 0 4 (.bool x) := by
  unfold Value.okWide; rw [u4]; simp only [Cell.okWide, u4]; exact trivial
theorem slice_of {P : Program} {W : World} {base : Nat} {t e : TypeId} {v : Value} {A : Option Addr} {n c : Nat} (hs : P.underlying t = some (.slice e)) (h : Value.okWide P W .any base t v) (hc : v.cells.toList = [.slice A n c]) : v = .slice A n c := by
  simp only [Value.okWide, hs, Cell.okWide] at h
  cases v <;> simp_all [Cell.ok, Value.cells]
/-- What the row wants to hear of a result that is a Boolean. -/
theorem ok_bools {W : World} {f : Func} (hf : f.resultTypes = #[4]) (x : Bool) : ∀ (j : Nat) (t : TypeId) (r : Value), f.resultTypes[j]? = some t → ((Value.bool x).resultList f.resultTypes.size)[j]? = some r → Value.okWide Tryz.prog W .any 0 t r := by
  intro j t r h1 h2
  rw [hf] at h1 h2
  match j with
  | 0 =>
    cases (h1 : some 4 = some t)
    cases (h2 : some (Value.bool x) = some r)
    exact ok_bool x
  | j + 1 => cases h1
end Go.Proofs.YtibhpoikhkokiaaGreat.Hw

/- Histories: what is serial has no circle with one arc of the third kind (plain law). -/
set_option linter.unusedVariables false
set_option linter.unusedSimpArgs false
namespace Go.Proofs.YtibhpoikhkokiaaGreat.Hw
open Go Go.Proofs
section
variable {l : List Ev} {t : Int}
/-- A place from which a transaction reads and writes. -/
def PlaceIs (l : List Ev) (t p : Int) : Prop := fitsB l t 0 p (comAt l t) = true ∧ p ≤ (highM l t : Nat)
theorem vers_get {item v : Int} (h : v ∈ versM l item) : ∃ (j : Nat) (x : Ev), l[j]? = some x ∧ x.op = 4 ∧ x.txn = v ∧ wroteM (l.take j) v item = true := by
  unfold versM at h
  obtain ⟨j, hj, hv⟩ := List.mem_filterMap.1 h
  cases hx : l[j]? with
  | none => rw [hx] at hv; cases hv
  | some x =>
    rw [hx] at hv
    simp only at hv
    split at hv
    · rename_i hc
      cases hv
      rw [Bool.and_eq_true] at hc
      exact ⟨j, x, hx, by simpa using hc.1, rfl, hc.2⟩
    · cases hv
theorem vers_in {item v : Int} {j : Nat} {x : Ev} (hx : l[j]? = some x) (ho : x.op = 4) (hv : x.txn = v) (hw : wroteM (l.take j) v item = true) : v ∈ versM l item := by
  subst hv
  unfold versM
  refine List.mem_filterMap.2 ⟨j, List.mem_range.2 (List.getElem?_eq_some_iff.1 hx).1, ?_⟩
  rw [hx]
  simp only [ho, beq_self_eq_true, Bool.true_and, hw, if_true]
theorem rise (hok : OkTo l l.length) (k : Int) : (versM l k).Pairwise (fun a b => comAt l a < comAt l b) := by
  have := (vers_rise hok (k := k) l.length (Nat.le_refl _)).1
  rwa [List.take_length] at this
theorem next_get {item f b : Int} (hb : nextM l item f = b) (h0 : b ≠ 0) : (f = 0 ∧ (versM l item)[0]? = some b) ∨ (f ≠ 0 ∧ ∃ j : Nat, (versM l item)[j]? = some f ∧ (versM l item)[j + 1]? = some b) := by
  unfold nextM at hb
  by_cases hf : f = 0
  · rw [if_pos (by simpa using hf)] at hb
    cases h : (versM l item)[0]? with
    | none => rw [h] at hb; exact absurd hb.symm h0
    | some y => rw [h] at hb; simp at hb; exact .inl ⟨hf, by rw [hb]⟩
  · rw [if_neg (by simpa using hf)] at hb
    cases h : (versM l item).findIdx? (fun y => f == y) with
    | none => rw [h] at hb; exact absurd hb.symm h0
    | some j =>
      rw [h] at hb
      simp only at hb
      rw [List.findIdx?_eq_some_iff_getElem] at h
      obtain ⟨g1, g2, _⟩ := h
      have g2 : f = (versM l item)[j] := by simpa using g2
      cases h2 : (versM l item)[j + 1]? with
      | none => rw [h2] at hb; exact absurd hb.symm h0
      | some y => rw [h2] at hb; simp at hb; exact .inr ⟨hf, j, by rw [List.getElem?_eq_getElem g1, g2], by rw [← hb]; exact h2⟩
variable (hok : OkTo l l.length) {rs : List Arc} (ha : ArcsOf l rs) {pl : Int → Int} (hp : ∀ t, comB l t = true → PlaceIs l t (pl t))
include hok ha hp
end
theorem places {l : List Ev} (h : ∀ t, comB l t = true → serialB l t = true) : ∃ pl : Int → Int, ∀ t, comB l t = true → PlaceIs l t (pl t) := by
  have : ∀ t, ∃ p, comB l t = true → PlaceIs l t p := fun t => by
    cases hc : comB l t with
    | false => exact ⟨0, fun h => by cases h⟩
    | true =>
      obtain ⟨p, _, h2, h3⟩ := found_ex (h t hc)
      exact ⟨p, fun _ => ⟨h3, h2⟩⟩
  exact ⟨fun t => Classical.choose (this t), fun t => Classical.choose_spec (this t)⟩
theorem in_all200 (t : Int) : all200.any (fun y => t == y) = inB t := by
  rw [Bool.eq_iff_iff, List.any_eq_true]
  unfold all200 inB
  simp only [List.mem_map, List.mem_range, Bool.and_eq_true, decide_eq_true_eq, beq_iff_eq]
  constructor
  · rintro ⟨y, ⟨j, hj, rfl⟩, rfl⟩; omega
  · rintro ⟨h1, h2⟩
    exact ⟨t, ⟨(t - 1).toNat, by omega, by omega⟩, rfl⟩
end Go.Proofs.YtibhpoikhkokiaaGreat.Hw

/- What functions of the program come to, by the evaluator: printed by a program of this session (gen.py) and checked here. -/
set_option linter.unusedVariables false
set_option maxRecDepth 100000
namespace Go.Proofs.YtibhpoikhkokiaaGreat.Hw
open Go Go.Proofs

/-- justiciar justiciarlaw29.HistoryOnly -/
def f7 (pl_A : Option Addr) (pl_n pl_c : Nat) (psome_A : Option Addr) (psome_n psome_c : Nat) (H : Hp) (Q : Value → Hp → Prop) : Prop :=
  jn (fun (j4 : Bool) (H5 : Hp) => cnd j4 (HCalls Tryz.prog 11 [] H5 fun v7 H8 => ∃ x9 : Bool, v7 = .bool x9 ∧ Q (.bool x9) H8) (HCalls Tryz.prog 31 [.slice pl_A pl_n pl_c, .slice psome_A psome_n psome_c] H5 fun v10 H11 =>
    ∃ (A12 : Option Addr) (n12 c12 : Nat), ∃ x13 : Int, v10 = .tuple #[.slice A12 n12 c12, .int .i64 x13] ∧ HCalls Tryz.prog 32 [.slice pl_A pl_n pl_c, .slice psome_A psome_n psome_c] H11 fun v14 H15 => ∃ (A16 : Option
    Addr) (n16 c16 : Nat), ∃ x17 : Int, v14 = .tuple #[.slice A16 n16 c16, .int .i64 x17] ∧ jn (fun (j30 : Bool) (H31 : Hp) => Q (.bool j30) H31) fun J32 => HCalls Tryz.prog 33 [.slice A12 n12 c12, .slice A16 n16 c16] H15
    fun v18 H19 => ∃ x20 : Bool, v18 = .bool x20 ∧ cnd x20 (cnd ((x13 : Int) == x17) (cnd ((x13 : Int) != 0) (HCalls Tryz.prog 11 [] H19 fun v21 H22 => ∃ x23 : Bool, v21 = .bool x23 ∧ J32 x23 H22) (HCalls Tryz.prog 14
    [.slice A12 n12 c12] H19 fun v24 H25 => ∃ x26 : Bool, v24 = .bool x26 ∧ cnd x26 (HCalls Tryz.prog 11 [] H25 fun v27 H28 => ∃ x29 : Bool, v27 = .bool x29 ∧ J32 x29 H28) (J32 false H25))) (J32 false H19)) (J32 false
    H19))) fun J6 => HCalls Tryz.prog 10 [.slice pl_A pl_n pl_c] H fun v1 H2 => ∃ x3 : Bool, v1 = .bool x3 ∧ cnd x3 (J6 true H2) (J6 (decide ((((psome_n : Nat) : Int) : Int) > 300)) H2)
/-- justiciar justiciarref29.Valid -/
def f21 (pl_A : Option Addr) (pl_n pl_c : Nat) (H : Hp) (Q : Value → Hp → Prop) : Prop :=
  cnd (decide ((((pl_n : Nat) : Int) : Int) > 2000)) (Q (.bool false) H) (((201 : Int) = 201 ∧ 0 ≤ (201 : Int) ∧ (201 : Int) ≤ 16777216 ∧ newF H 84 (List.replicate ((201 : Int).toNat) [.bool false, .bool false, .int .i64 0,
    .slice none 0 0]).flatten fun g1 H2 => LoopF (σ := (Int × Unit) × Unit) ((0, ()), ()) H2 fun s3 H4 next5 => cnd (decide ((s3.1.1 : Int) < ((pl_n : Nat) : Int))) (jn (fun (H53 : Hp) => KeepX [some (.v (.slice (some
    ⟨g1, 0, none⟩) ((201 : Int).toNat) ((201 : Int).toNat))), some (.v (.slice pl_A pl_n pl_c)), some (.v (.int .i64 ((pl_n : Nat) : Int)))] [] ∧ next5 ((IntKind.i64.wrap (s3.1.1 + 1), ()), ()) H53) fun J54 => 0 ≤ (s3.1.1
    : Int) ∧ (s3.1.1 : Int) < ((pl_n : Nat) : Int) ∧ onPtr pl_A fun b6 o6 => ∃ x7 : Int, cl H4 b6 (o6 + (s3.1.1 : Int).toNat * 5) = some (.int .i64 x7) ∧ ∃ x8 : Int, cl H4 b6 ((o6 + (s3.1.1 : Int).toNat * 5) + 1) = some
    (.int .i64 x8) ∧ ∃ x9 : Int, cl H4 b6 (((o6 + (s3.1.1 : Int).toNat * 5) + 1) + 1) = some (.int .i64 x9) ∧ ∃ x10 : Int, cl H4 b6 ((((o6 + (s3.1.1 : Int).toNat * 5) + 1) + 1) + 1) = some (.int .i64 x10) ∧ ∃ x11 : Int,
    cl H4 b6 (((((o6 + (s3.1.1 : Int).toNat * 5) + 1) + 1) + 1) + 1) = some (.int .i64 x11) ∧ HCalls Tryz.prog 56 [.agg #[.int .i64 x7, .int .i64 x8, .int .i64 x9, .int .i64 x10, .int .i64 x11]] H4 fun v12 H13 => ∃ x14 :
    Bool, v12 = .bool x14 ∧ cnd (!x14) (Q (.bool false) H13) (0 ≤ (x8 : Int) ∧ (x8 : Int) < ((((201 : Int).toNat) : Nat) : Int) ∧ jn (fun (j17 : Bool) => cnd j17 (Q (.bool false) H13) (cnd ((x7 : Int) == 1) (storeF H13 g1
    ((0 + (x8 : Int).toNat * 4) + 0) [.bool true] fun H19 => J54 H19) (jn (fun (j20 : Bool) => cnd j20 (storeF H13 g1 ((0 + (x8 : Int).toNat * 4) + 1) [.bool true] fun H22 => J54 H22) (∃ x23 : Int, cl H13 g1 ((0 + (x8 :
    Int).toNat * 4) + 2) = some (.int .i64 x23) ∧ cnd (decide ((x11 : Int) < x23)) (Q (.bool false) H13) (storeF H13 g1 ((0 + (x8 : Int).toNat * 4) + 2) [.int .i64 x11] fun H24 => jn (fun (j29 : Bool) (H30 : Hp) => cnd
    j29 (Q (.bool false) H30) (cnd ((x7 : Int) == 2) (J54 H30) (LoopF (σ := (Int × Unit) × Unit) ((0, ()), ()) H30 fun s32 H33 next34 => cnd (decide ((s32.1.1 : Int) < ((((201 : Int).toNat) : Nat) : Int))) (jn (fun (j40 :
    Bool) (H41 : Hp) => cnd j40 (Q (.bool false) H41) (KeepX [some (.v (.slice (some ⟨g1, 0, none⟩) ((201 : Int).toNat) ((201 : Int).toNat))), some (.loc 5 0), some (.v (.pointer (some ⟨g1, 0 + (x8 : Int).toNat * 4,
    none⟩))), some (.v (.slice pl_A pl_n pl_c)), some (.v (.int .i64 ((pl_n : Nat) : Int))), some (.v (.int .i64 s3.1.1)), some (.v (.int .i64 ((((201 : Int).toNat) : Nat) : Int)))] [some (true, [.int .i64 x7, .int .i64
    x8, .int .i64 x9, .int .i64 x10, .int .i64 x11])] ∧ next34 ((IntKind.i64.wrap (s32.1.1 + 1), ()), ()) H41)) fun J42 => cnd ((s32.1.1 : Int) != x8) (0 ≤ (s32.1.1 : Int) ∧ (s32.1.1 : Int) < ((((201 : Int).toNat) : Nat)
    : Int) ∧ ∃ x35 : Bool, cl H33 g1 ((0 + (s32.1.1 : Int).toNat * 4) + 1) = some (.bool x35) ∧ cnd (!x35) (0 ≤ (s32.1.1 : Int) ∧ (s32.1.1 : Int) < ((((201 : Int).toNat) : Nat) : Int) ∧ ∃ (A36 : Option Addr) (n36 c36 :
    Nat), cl H33 g1 ((0 + (s32.1.1 : Int).toNat * 4) + 3) = some (.slice A36 n36 c36) ∧ HCalls Tryz.prog 57 [.slice A36 n36 c36, .int .i64 x9] H33 fun v37 H38 => ∃ x39 : Bool, v37 = .bool x39 ∧ J42 x39 H38) (J42 false
    H33)) (J42 false H33)) (∃ (A43 : Option Addr) (n43 c43 : Nat), cl H33 g1 ((0 + (x8 : Int).toNat * 4) + 3) = some (.slice A43 n43 c43) ∧ HCalls Tryz.prog 57 [.slice A43 n43 c43, .int .i64 x9] H33 fun v44 H45 => ∃ x46 :
    Bool, v44 = .bool x46 ∧ cnd (!x46) (∃ (A47 : Option Addr) (n47 c47 : Nat), cl H45 g1 ((0 + (x8 : Int).toNat * 4) + 3) = some (.slice A47 n47 c47) ∧ newF H45 3 [.int .i64 x9] fun g48 H49 => appendF H49 3 1 8 A47 n47
    c47 (some ⟨g48, 0, none⟩) 1 fun A50 n50 c50 H51 => storeF H51 g1 ((0 + (x8 : Int).toNat * 4) + 3) [.slice A50 n50 c50] fun H52 => J54 H52) (J54 H45))))) fun J31 => cnd ((x7 : Int) == 2) (cnd ((x10 : Int) != 0) (cnd
    (decide ((x10 : Int) < 0)) (J31 true H24) (cnd (decide ((x10 : Int) > 200)) (J31 true H24) (0 ≤ (x10 : Int) ∧ (x10 : Int) < ((((201 : Int).toNat) : Nat) : Int) ∧ ∃ (A25 : Option Addr) (n25 c25 : Nat), cl H24 g1 ((0 +
    (x10 : Int).toNat * 4) + 3) = some (.slice A25 n25 c25) ∧ HCalls Tryz.prog 57 [.slice A25 n25 c25, .int .i64 x9] H24 fun v26 H27 => ∃ x28 : Bool, v26 = .bool x28 ∧ J31 (!x28) H27))) (J31 false H24)) (J31 false H24))))
    fun J21 => cnd ((x7 : Int) == 4) (J21 ((x7 : Int) == 4)) (J21 ((x7 : Int) == 5))))) fun J18 => ∃ x15 : Bool, cl H13 g1 ((0 + (x8 : Int).toNat * 4) + 1) = some (.bool x15) ∧ cnd x15 (J18 true) (∃ x16 : Bool, cl H13 g1
    ((0 + (x8 : Int).toNat * 4) + 0) = some (.bool x16) ∧ J18 (x16 == ((x7 : Int) == 1))))) (Q (.bool true) H4)))
noncomputable def fcx21 : Cx := cx 145 [(5, true)] [(5, ⟨[3, 12, 13], [], [(14, .int .i64)], []⟩), (20, ⟨[3, 5, 6, 12, 13, 14, 87], [5], [(88, .int .i64)], []⟩)] [(10, (.look 0 (.look 1 (.look 2 (.look 3 (.look 4 (.look 5 (.look 6 (.look 7 (.look 8 (.look 9 (.look 10 (.look 11 (.look 12 (.look 13 .done))))))))))))))), (13, (.look 0 (.look 1 (.look 2 (.look 3 (.look 4 (.look 5 (.look 6 .done)))))))), (16, (.look 0 (.look 1 (.look 2 (.look 3 (.look 4 (.look 5 (.look 6 (.look 7 (.look 8 (.look 9 (.look 10 (.look 11 (.look 12 (.look 13 (.look 14 (.look 15 (.look 16 (.look 17 (.look 18 (.look 19 (.look 20 (.look 21 (.look 22 (.look 23 (.look 24 (.look 25 (.act 26 (.look 27 (.look 28 (.look 29 .done))) .done)))))))))))))))))))))))))))), (22, (.look 0 (.look 1 (.look 2 (.look 3 (.look 4 (.look 5 (.look 6 (.look 7 (.look 8 (.look 9 (.look 10 (.look 11 (.look 12 (.look 13 (.look 14 (.look 15 (.look 16 (.look 17 (.look 18 (.look 19 (.act 20 (.look 21 .done) .done)))))))))))))))))))))), (25, (.look 0 (.look 1 (.look 2 (.look 3 (.look 4 (.look 5 (.act 6 (.look 7 .done) .done)))))))), (26, (.look 0 (.look 1 (.look 2 (.look 3 (.look 4 (.look 5 (.look 6 (.act 7 (.act 8 (.look 9 (.look 10 (.act 11 .done .done))) .done) .done)))))))))] []
theorem f21.eq (pl_A : Option Addr) (pl_n pl_c : Nat) (H : Hp) (Q : Value → Hp → Prop) : f21 pl_A pl_n pl_c H Q = wFun fcx21 Tryz.f21 [.slice pl_A pl_n pl_c] H Q := by kernel_rfl
theorem f21.ok (pl_A : Option Addr) (pl_n pl_c : Nat) {H : Hp} {Q : Value → Hp → Prop} (h : f21 pl_A pl_n pl_c H Q) : HCalls Tryz.prog 21 [.slice pl_A pl_n pl_c] H Q := hcalls_of (cxOk 145 [(5, true)] [(5, ⟨[3, 12, 13], [], [(14, .int .i64)], []⟩), (20, ⟨[3, 5, 6, 12, 13, 14, 87], [5], [(88, .int .i64)], []⟩)] [(10, (.look 0 (.look 1 (.look 2 (.look 3 (.look 4 (.look 5 (.look 6 (.look 7 (.look 8 (.look 9 (.look 10 (.look 11 (.look 12 (.look 13 .done))))))))))))))), (13, (.look 0 (.look 1 (.look 2 (.look 3 (.look 4 (.look 5 (.look 6 .done)))))))), (16, (.look 0 (.look 1 (.look 2 (.look 3 (.look 4 (.look 5 (.look 6 (.look 7 (.look 8 (.look 9 (.look 10 (.look 11 (.look 12 (.look 13 (.look 14 (.look 15 (.look 16 (.look 17 (.look 18 (.look 19 (.look 20 (.look 21 (.look 22 (.look 23 (.look 24 (.look 25 (.act 26 (.look 27 (.look 28 (.look 29 .done))) .done)))))))))))))))))))))))))))), (22, (.look 0 (.look 1 (.look 2 (.look 3 (.look 4 (.look 5 (.look 6 (.look 7 (.look 8 (.look 9 (.look 10 (.look 11 (.look 12 (.look 13 (.look 14 (.look 15 (.look 16 (.look 17 (.look 18 (.look 19 (.act 20 (.look 21 .done) .done)))))))))))))))))))))), (25, (.look 0 (.look 1 (.look 2 (.look 3 (.look 4 (.look 5 (.act 6 (.look 7 .done) .done)))))))), (26, (.look 0 (.look 1 (.look 2 (.look 3 (.look 4 (.look 5 (.look 6 (.act 7 (.act 8 (.look 9 (.look 10 (.act 11 .done .done))) .done) .done)))))))))] []) Tryz.func21 (Eq.mp (f21.eq pl_A pl_n pl_c H Q) h)

/-- justiciar justiciarref29.Only -/
def f32 (pl_A : Option Addr) (pl_n pl_c : Nat) (ptxns_A : Option Addr) (ptxns_n ptxns_c : Nat) (H : Hp) (Q : Value → Hp → Prop) : Prop :=
  HCalls Tryz.prog 21 [.slice pl_A pl_n pl_c] H fun v1 H2 => ∃ x3 : Bool, v1 = .bool x3 ∧ cnd (!x3) (Q (.tuple #[.slice none 0 0, .int .i64 2]) H2) (LoopF (σ := ((Option Addr × Nat × Nat) × (Int × Unit)) × Unit) (((none, 0,
    0), (0, ())), ()) H2 fun s4 H5 next6 => cnd (decide ((s4.1.2.1 : Int) < ((pl_n : Nat) : Int))) (jn (fun (jA26 : Option Addr) (jn27 : Nat) (jc28 : Nat) (H29 : Hp) => KeepX [some (.v (.slice ptxns_A ptxns_n ptxns_c)),
    some (.v (.slice pl_A pl_n pl_c)), some (.v (.int .i64 ((pl_n : Nat) : Int)))] [] ∧ next6 (((jA26, jn27, jc28), (IntKind.i64.wrap (s4.1.2.1 + 1), ())), ()) H29) fun J30 => 0 ≤ (s4.1.2.1 : Int) ∧ (s4.1.2.1 : Int) <
    ((pl_n : Nat) : Int) ∧ onPtr pl_A fun b7 o7 => ∃ x8 : Int, cl H5 b7 (o7 + (s4.1.2.1 : Int).toNat * 5) = some (.int .i64 x8) ∧ ∃ x9 : Int, cl H5 b7 ((o7 + (s4.1.2.1 : Int).toNat * 5) + 1) = some (.int .i64 x9) ∧ ∃ x10
    : Int, cl H5 b7 (((o7 + (s4.1.2.1 : Int).toNat * 5) + 1) + 1) = some (.int .i64 x10) ∧ ∃ x11 : Int, cl H5 b7 ((((o7 + (s4.1.2.1 : Int).toNat * 5) + 1) + 1) + 1) = some (.int .i64 x11) ∧ ∃ x12 : Int, cl H5 b7 (((((o7 +
    (s4.1.2.1 : Int).toNat * 5) + 1) + 1) + 1) + 1) = some (.int .i64 x12) ∧ HCalls Tryz.prog 57 [.slice ptxns_A ptxns_n ptxns_c, .int .i64 x9] H5 fun v13 H14 => ∃ x15 : Bool, v13 = .bool x15 ∧ cnd (!x15) (J30 s4.1.1.1
    s4.1.1.2.1 s4.1.1.2.2 H14) (jn (fun (j19 : Int) (H20 : Hp) => newF H20 35 [.int .i64 x8, .int .i64 x9, .int .i64 x10, .int .i64 j19, .int .i64 x12] fun g22 H23 => appendF H23 35 5 40 s4.1.1.1 s4.1.1.2.1 s4.1.1.2.2
    (some ⟨g22, 0, none⟩) 1 fun A24 n24 c24 H25 => J30 A24 n24 c24 H25) fun J21 => HCalls Tryz.prog 57 [.slice ptxns_A ptxns_n ptxns_c, .int .i64 x11] H14 fun v16 H17 => ∃ x18 : Bool, v16 = .bool x18 ∧ cnd (!x18) (J21 0
    H17) (J21 x11 H17))) (Q (.tuple #[.slice s4.1.1.1 s4.1.1.2.1 s4.1.1.2.2, .int .i64 0]) H5))
/-- justiciar justiciarref29.Same -/
def f33 (pa_A : Option Addr) (pa_n pa_c : Nat) (pb_A : Option Addr) (pb_n pb_c : Nat) (H : Hp) (Q : Value → Hp → Prop) : Prop :=
  cnd ((((pa_n : Nat) : Int) : Int) != ((pb_n : Nat) : Int)) (Q (.bool false) H) (LoopF (σ := (Int × Unit) × Unit) ((0, ()), ()) H fun s1 H2 next3 => cnd (decide ((s1.1.1 : Int) < ((pa_n : Nat) : Int))) (0 ≤ (s1.1.1 : Int)
    ∧ (s1.1.1 : Int) < ((pa_n : Nat) : Int) ∧ onPtr pa_A fun b4 o4 => ∃ x5 : Int, cl H2 b4 (o4 + (s1.1.1 : Int).toNat * 5) = some (.int .i64 x5) ∧ ∃ x6 : Int, cl H2 b4 ((o4 + (s1.1.1 : Int).toNat * 5) + 1) = some (.int
    .i64 x6) ∧ ∃ x7 : Int, cl H2 b4 (((o4 + (s1.1.1 : Int).toNat * 5) + 1) + 1) = some (.int .i64 x7) ∧ ∃ x8 : Int, cl H2 b4 ((((o4 + (s1.1.1 : Int).toNat * 5) + 1) + 1) + 1) = some (.int .i64 x8) ∧ ∃ x9 : Int, cl H2 b4
    (((((o4 + (s1.1.1 : Int).toNat * 5) + 1) + 1) + 1) + 1) = some (.int .i64 x9) ∧ 0 ≤ (s1.1.1 : Int) ∧ (s1.1.1 : Int) < ((pb_n : Nat) : Int) ∧ onPtr pb_A fun b10 o10 => ∃ x11 : Int, cl H2 b10 (o10 + (s1.1.1 : Int).toNat
    * 5) = some (.int .i64 x11) ∧ ∃ x12 : Int, cl H2 b10 ((o10 + (s1.1.1 : Int).toNat * 5) + 1) = some (.int .i64 x12) ∧ ∃ x13 : Int, cl H2 b10 (((o10 + (s1.1.1 : Int).toNat * 5) + 1) + 1) = some (.int .i64 x13) ∧ ∃ x14 :
    Int, cl H2 b10 ((((o10 + (s1.1.1 : Int).toNat * 5) + 1) + 1) + 1) = some (.int .i64 x14) ∧ ∃ x15 : Int, cl H2 b10 (((((o10 + (s1.1.1 : Int).toNat * 5) + 1) + 1) + 1) + 1) = some (.int .i64 x15) ∧ cnd (!(((x5 : Int) ==
    x11) && (((x6 : Int) == x12) && (((x7 : Int) == x13) && (((x8 : Int) == x14) && (((x9 : Int) == x15) && true)))))) (Q (.bool false) H2) (KeepX [some (.v (.slice pa_A pa_n pa_c)), some (.v (.slice pb_A pb_n pb_c)),
    some (.v (.int .i64 ((pa_n : Nat) : Int)))] [] ∧ next3 ((IntKind.i64.wrap (s1.1.1 + 1), ()), ()) H2)) (Q (.bool true) H2))
/-- justiciar justiciarref29.event -/
def f56 (px_0 : Int) (px_1 : Int) (px_2 : Int) (px_3 : Int) (px_4 : Int) (H : Hp) (Q : Value → Hp → Prop) : Prop :=
  jn (fun (j1 : Bool) => cnd j1 (Q (.bool false) H) (jn (fun (j3 : Bool) => cnd j3 (jn (fun (j5 : Bool) => Q (.bool j5) H) fun J6 => cnd (decide ((px_2 : Int) ≥ 1)) (cnd (decide ((px_2 : Int) ≤ 200)) (cnd (decide ((px_4 :
    Int) ≥ 1)) (cnd ((px_3 : Int) == 0) (J6 true) (J6 ((px_0 : Int) == 2))) (J6 false)) (J6 false)) (J6 false)) (jn (fun (j7 : Bool) => cnd j7 (jn (fun (j9 : Bool) => Q (.bool j9) H) fun J10 => cnd ((px_2 : Int) == 0)
    (cnd ((px_3 : Int) == 0) (J10 ((px_4 : Int) == 0)) (J10 false)) (J10 false)) (Q (.bool false) H)) fun J8 => cnd ((px_0 : Int) == 1) (J8 ((px_0 : Int) == 1)) (cnd ((px_0 : Int) == 4) (J8 ((px_0 : Int) == 4)) (J8 ((px_0
    : Int) == 5))))) fun J4 => cnd ((px_0 : Int) == 2) (J4 ((px_0 : Int) == 2)) (J4 ((px_0 : Int) == 3)))) fun J2 => cnd (decide ((px_1 : Int) < 1)) (J2 true) (J2 (decide ((px_1 : Int) > 200)))
noncomputable def fcx56 : Cx := cx 56 [(1, true)] [] [] []
theorem f56.eq (px_0 : Int) (px_1 : Int) (px_2 : Int) (px_3 : Int) (px_4 : Int) (H : Hp) (Q : Value → Hp → Prop) : f56 px_0 px_1 px_2 px_3 px_4 H Q = wFun fcx56 Tryz.f56 [.agg #[.int .i64 px_0, .int .i64 px_1, .int .i64 px_2, .int .i64 px_3, .int .i64 px_4]] H Q := by kernel_rfl
theorem f56.ok (px_0 : Int) (px_1 : Int) (px_2 : Int) (px_3 : Int) (px_4 : Int) {H : Hp} {Q : Value → Hp → Prop} (h : f56 px_0 px_1 px_2 px_3 px_4 H Q) : HCalls Tryz.prog 56 [.agg #[.int .i64 px_0, .int .i64 px_1, .int .i64 px_2, .int .i64 px_3, .int .i64 px_4]] H Q := hcalls_of (cxOk 56 [(1, true)] [] [] []) Tryz.func56 (Eq.mp (f56.eq px_0 px_1 px_2 px_3 px_4 H Q) h)

/-- justiciar justiciarref29.has -/
def f57 (pl_A : Option Addr) (pl_n pl_c : Nat) (pn : Int) (H : Hp) (Q : Value → Hp → Prop) : Prop :=
  LoopF (σ := (Int × Unit) × Unit) ((0, ()), ()) H fun s1 H2 next3 => cnd (decide ((s1.1.1 : Int) < ((pl_n : Nat) : Int))) (0 ≤ (s1.1.1 : Int) ∧ (s1.1.1 : Int) < ((pl_n : Nat) : Int) ∧ onPtr pl_A fun b4 o4 => ∃ x5 : Int, cl
    H2 b4 (o4 + (s1.1.1 : Int).toNat * 1) = some (.int .i64 x5) ∧ cnd ((x5 : Int) == pn) (Q (.bool true) H2) (KeepX [some (.v (.int .i64 pn)), some (.v (.slice pl_A pl_n pl_c)), some (.v (.int .i64 ((pl_n : Nat) : Int)))]
    [] ∧ next3 ((IntKind.i64.wrap (s1.1.1 + 1), ()), ()) H2)) (Q (.bool false) H2)
noncomputable def fcx57 : Cx := cx 17 [] [(2, ⟨[1, 7, 8], [], [(9, .int .i64)], []⟩)] [] []
theorem f57.eq (pl_A : Option Addr) (pl_n pl_c : Nat) (pn : Int) (H : Hp) (Q : Value → Hp → Prop) : f57 pl_A pl_n pl_c pn H Q = wFun fcx57 Tryz.f57 [.slice pl_A pl_n pl_c, .int .i64 pn] H Q := by kernel_rfl
theorem f57.ok (pl_A : Option Addr) (pl_n pl_c : Nat) (pn : Int) {H : Hp} {Q : Value → Hp → Prop} (h : f57 pl_A pl_n pl_c pn H Q) : HCalls Tryz.prog 57 [.slice pl_A pl_n pl_c, .int .i64 pn] H Q := hcalls_of (cxOk 17 [] [(2, ⟨[1, 7, 8], [], [(9, .int .i64)], []⟩)] [] []) Tryz.func57 (Eq.mp (f57.eq pl_A pl_n pl_c pn H Q) h)

end Go.Proofs.YtibhpoikhkokiaaGreat.Hw

/- The document's histories: valid (c56, c57, c21). -/
set_option linter.unusedVariables false
set_option linter.unusedSimpArgs false
set_option linter.unusedSectionVars false
set_option maxRecDepth 20000
namespace Go.Proofs.YtibhpoikhkokiaaGreat.Hw
open Go Go.Proofs
/-! ### arrays of parts -/
theorem setR_one {cs : List Value} {o : Nat} {v : Value} (h : o < cs.length) : setR cs o [v] = cs.set o v := by
  unfold setR
  rw [List.set_eq_take_append_cons_drop, if_pos h]
  simp
/-- An array of a number of parts of a size. -/
def PArr (H : Hp) (g ty k N : Nat) (F : Nat → List Value) : Prop := (∀ t, (F t).length = k) ∧ H g = some (.cells ((List.range N).flatMap F).toArray ty (0, 0))
theorem flat_at {F : Nat → List Value} {k N t j : Nat} (hl : ∀ t, (F t).length = k) (ht : t < N) (hj : j < k) : ((List.range N).flatMap F)[t * k + j]? = (F t)[j]? :=
  flat_get (fun x _ => hl x) (List.getElem?_range ht) hj
theorem PArr.get {H : Hp} {g ty k N : Nat} {F : Nat → List Value} (h : PArr H g ty k N F) {t j : Nat} {v : Value} (ht : t < N) (hv : (F t)[j]? = some v) : cl H g (t * k + j) = some v := by
  have hj : j < k := by rw [← h.1 t]; exact (List.getElem?_eq_some_iff.1 hv).1
  rw [cl_cells h.2, flat_at h.1 ht hj, hv]
theorem PArr.set {H : Hp} {g ty k N : Nat} {F F' : Nat → List Value} (h : PArr H g ty k N F) {t j : Nat} {v : Value} {K : Hp → Prop} (ht : t < N) (hj : j < k) (hF : F' t = (F t).set j v) (hF' : ∀ u, u ≠ t → F' u = F u)
    (hk : ∀ H', PArr H' g ty k N F' → (∀ q, q ≠ g → H' q = H q) → K H') : storeF H g (t * k + j) [v] K := by
  have hlen : ((List.range N).flatMap F).length = N * k := by rw [flat_length (fun x _ => h.1 x), List.length_range]
  have hlt : t * k + j < N * k := by
    have h1 : t * k + k ≤ N * k := by rw [← Nat.succ_mul]; exact Nat.mul_le_mul_right k ht
    omega
  have hl' : ∀ u, (F' u).length = k := fun u => by
    by_cases e : u = t
    · rw [e, hF, List.length_set, h.1]
    · rw [hF' u e, h.1]
  refine ⟨_, ty, h.2, by rw [hlen]; simp; omega, hk _ ⟨hl', ?_⟩ fun q hq => upd_off hq⟩
  rw [upd_at]
  congr 3
  rw [setR_one (by rw [hlen]; exact hlt)]
  have hlen' : ((List.range N).flatMap F').length = N * k := by rw [flat_length (fun x _ => hl' x), List.length_range]
  apply List.ext_getElem?
  intro m
  rw [List.getElem?_set]
  by_cases hm : m < N * k
  · have hk0 : 0 < k := by omega
    have hdm := Nat.div_add_mod m k
    have hmod := Nat.mod_lt m hk0
    have hd : m / k < N := Nat.div_lt_of_lt_mul (by rw [Nat.mul_comm]; exact hm)
    have em : m = m / k * k + m % k := by rw [Nat.mul_comm]; exact hdm.symm
    by_cases e : t * k + j = m
    · rw [if_pos e, if_pos (by rw [hlen]; exact hlt), ← e, flat_at hl' ht hj, hF, List.getElem?_set_self (by rw [h.1]; exact hj)]
    · rw [if_neg e, em, flat_at h.1 hd hmod, flat_at hl' hd hmod]
      by_cases e2 : m / k = t
      · have : j ≠ m % k := fun e3 => e (by rw [em, e2, e3])
        rw [e2, hF, List.getElem?_set_ne this]
      · rw [hF' _ e2]
  · rw [if_neg (by omega), List.getElem?_eq_none (by rw [hlen]; omega), List.getElem?_eq_none (by rw [hlen']; omega)]
theorem PArr.keep {H H' : Hp} {g ty k N : Nat} {F : Nat → List Value} (h : PArr H g ty k N F) (hg : H' g = H g) : PArr H' g ty k N F := ⟨h.1, hg.trans h.2⟩
theorem PArr.live {H : Hp} {g ty k N : Nat} {F : Nat → List Value} (h : PArr H g ty k N F) : H g ≠ none := by rw [h.2]; simp
/-! ### events -/
def evR (x : Ev) : Bool := inB x.txn && (if x.op == 2 || x.op == 3 then inB x.item && (decide (1 ≤ x.stmt) && (x.frm == 0 || x.op == 2)) else if x.op == 1 || (x.op == 4 || x.op == 5) then plainB x else false)
def restB (p : List Ev) (x : Ev) : Bool := if x.op == 2 then decide (stmtM p x.txn ≤ x.stmt) && (x.frm == 0 || wroteM p x.frm x.item) else if x.op == 3 then decide (stmtM p x.txn ≤ x.stmt) && !takenB p x.txn x.item else true
theorem evOk_split {p : List Ev} {x : Ev} : evOk p x = (evR x && (!endedM p x.txn && ((begunM p x.txn != (x.op == 1)) && restB p x))) := by
  have hmax : decide (max (stmtM p x.txn) 1 ≤ x.stmt) = (decide (1 ≤ x.stmt) && decide (stmtM p x.txn ≤ x.stmt)) := by
    rw [← Bool.decide_and, decide_eq_decide]; omega
  unfold evOk evR restB
  by_cases h1 : x.op = 1
  · simp only [h1, beq_self_eq_true, show ((1 : Int) == 2) = false from rfl, show ((1 : Int) == 3) = false from rfl, Bool.or_self, Bool.false_eq_true, if_false, if_true, Bool.true_or]
    cases inB x.txn <;> cases endedM p x.txn <;> cases begunM p x.txn <;> cases plainB x <;> rfl
  by_cases h2 : x.op = 2
  · simp only [h2, beq_self_eq_true, show ((2 : Int) == 1) = false from rfl, Bool.true_or, if_true, Bool.false_eq_true, if_false, hmax, Bool.or_true]
    cases inB x.txn <;> cases endedM p x.txn <;> cases begunM p x.txn <;> cases inB x.item <;> cases decide (1 ≤ x.stmt) <;> rfl
  by_cases h3 : x.op = 3
  · simp only [h3, beq_self_eq_true, show ((3 : Int) == 1) = false from rfl, show ((3 : Int) == 2) = false from rfl, Bool.false_or, if_true, Bool.false_eq_true, if_false, hmax, Bool.or_false]
    cases inB x.txn <;> cases endedM p x.txn <;> cases begunM p x.txn <;> cases inB x.item <;> cases decide (1 ≤ x.stmt) <;> cases x.frm == 0 <;> cases decide (stmtM p x.txn ≤ x.stmt) <;> cases takenB p x.txn x.item <;> rfl
  · have e1 : (x.op == 1) = false := by simpa using h1
    have e2 : (x.op == 2) = false := by simpa using h2
    have e3 : (x.op == 3) = false := by simpa using h3
    simp only [e1, e2, e3, Bool.or_self, Bool.false_eq_true, if_false, Bool.false_or]
    cases inB x.txn <;> cases endedM p x.txn <;> cases begunM p x.txn <;> cases (x.op == 4 || x.op == 5) <;> cases plainB x <;> rfl
theorem ok_take {l : List Ev} {i : Nat} (h : OkTo l i) (hi : i ≤ l.length) : OkTo (l.take i) (l.take i).length := by
  have hl : (l.take i).length = i := by rw [List.length_take]; omega
  rw [hl]
  exact OkTo.front h hi
/-- Who has an item open. -/
theorem open_iff : ∀ {n : Nat} {p : List Ev}, p.length = n → OkTo p p.length → ∀ item w, openM p item = some w ↔ wroteM p w item = true ∧ endedM p w = false
  | 0, p, hn, _, item, w => by
    rw [List.length_eq_zero_iff.1 hn]
    constructor
    · intro h; cases h
    · rintro ⟨h, _⟩; cases h
  | n + 1, l, hn, hok, item, w => by
    have hlt : n < l.length := by omega
    have hx : l[n]? = some l[n] := List.getElem?_eq_getElem hlt
    have e : l = l.take n ++ [l[n]] := by rw [← take_snoc hx, ← hn, List.take_length]
    have hpre := ok_take (i := n) (hok.mono (by omega)) (by omega)
    have ih := open_iff (n := n) (p := l.take n) (by rw [List.length_take]; omega) hpre
    have hev := hok n _ (by omega) hx
    generalize hxx : l[n] = x at e hev
    rw [e, open_snoc, wrote_snoc, ended_snoc]
    obtain ⟨_, h2, _, h4⟩ := ev_parts hev
    generalize l.take n = p at *
    unfold openStep
    by_cases h3 : x.op = 3
    · have hnE : ∀ u, isE u x = false := fun u => by unfold isE; simp [h3]
      by_cases hi : x.item = item
      · rw [if_pos (by simp [h3, hi]), hnE, Bool.or_false]
        rcases h4 with ⟨ho, _⟩ | ⟨ho, _⟩ | ⟨_, _, _, ht, _⟩ | ⟨ho, _⟩
        · omega
        · omega
        · rw [hi] at ht
          constructor
          · intro he
            cases he
            refine ⟨?_, h2⟩
            rw [isW_iff.2 ⟨h3, rfl, hi⟩, Bool.or_true]
          · rintro ⟨hw, he⟩
            by_cases ew : w = x.txn
            · rw [ew]
            · exfalso
              have hnw : isW w item x = false := by
                cases hh : isW w item x with
                | false => rfl
                | true => exact absurd (isW_iff.1 hh).2.1.symm ew
              rw [hnw, Bool.or_false] at hw
              have hop := (ih item w).2 ⟨hw, he⟩
              unfold takenB at ht
              rw [hop] at ht
              have : w = x.txn := by simpa using ht
              exact ew this
        · omega
      · have hnw : isW w item x = false := by
          cases hh : isW w item x with
          | false => rfl
          | true => exact absurd (isW_iff.1 hh).2.2 hi
        rw [if_neg (by simp [hi]), if_neg (by simp [h3]), hnw, hnE, Bool.or_false, Bool.or_false]
        exact ih item w
    · have hnw : isW w item x = false := by unfold isW; simp [h3]
      rw [if_neg (by simp [h3]), hnw, Bool.or_false]
      by_cases h5 : x.op = 4 ∨ x.op = 5
      · have hE : ∀ u, isE u x = decide (x.txn = u) := fun u => by
          rw [Bool.eq_iff_iff, isE_iff, decide_eq_true_eq]; exact ⟨fun h => h.2, fun h => ⟨h5, h⟩⟩
        have h5' : (x.op == 4 || x.op == 5) = true := by rcases h5 with h | h <;> simp [h]
        rw [hE, h5', Bool.true_and]
        by_cases ho : openM p item = some x.txn
        · rw [if_pos (by rw [ho]; simp)]
          constructor
          · intro h; cases h
          · rintro ⟨hw, he⟩
            rw [Bool.or_eq_false_iff, decide_eq_false_iff_not] at he
            have := (ih item w).2 ⟨hw, he.1⟩
            rw [ho] at this; cases this
            exact absurd rfl he.2
        · rw [if_neg (by simpa using ho)]
          constructor
          · intro h
            obtain ⟨a, b⟩ := (ih item w).1 h
            refine ⟨a, ?_⟩
            rw [b, Bool.false_or, decide_eq_false_iff_not]
            rintro rfl
            exact ho h
          · rintro ⟨hw, he⟩
            rw [Bool.or_eq_false_iff] at he
            exact (ih item w).2 ⟨hw, he.1⟩
      · have hE : isE w x = false := by
          cases hh : isE w x with
          | false => rfl
          | true => exact absurd (isE_iff.1 hh).1 h5
        have h5' : (x.op == 4 || x.op == 5) = false := by
          have : ¬ x.op = 4 ∧ ¬ x.op = 5 := by omega
          simp [this.1, this.2]
        rw [hE, h5', Bool.false_and, Bool.or_false]
        exact ih item w
theorem txn_in {p : List Ev} (hok : OkTo p p.length) {t i : Int} (h : wroteM p t i = true) : 1 ≤ t ∧ t ≤ 200 := by
  obtain ⟨x, hx, hp⟩ := List.any_eq_true.1 h
  obtain ⟨j, hj⟩ := List.getElem?_of_mem hx
  have h1 := (ev_parts (hok j x (List.getElem?_eq_some_iff.1 hj).1 hj)).1
  rw [(isW_iff.1 hp).2.1] at h1
  unfold inB at h1
  simp at h1
  exact h1
theorem taken_iff {p : List Ev} (hok : OkTo p p.length) {t item : Int} : takenB p t item = true ↔ ∃ n : Nat, n < 201 ∧ (n : Int) ≠ t ∧ endedM p n = false ∧ wroteM p n item = true := by
  unfold takenB
  constructor
  · intro h
    cases ho : openM p item with
    | none => rw [ho] at h; cases h
    | some w =>
      rw [ho] at h
      obtain ⟨a, b⟩ := (open_iff rfl hok item w).1 ho
      have := txn_in hok a
      have e : ((w.toNat : Nat) : Int) = w := by omega
      refine ⟨w.toNat, by omega, ?_, ?_, ?_⟩
      · rw [e]; simpa using h
      · rw [e]; exact b
      · rw [e]; exact a
  · rintro ⟨n, _, hne, he, hw⟩
    rw [(open_iff rfl hok item n).2 ⟨hw, he⟩]
    simpa using hne
theorem bad_at {l : List Ev} {i : Nat} {x : Ev} (hx : l[i]? = some x) (h : evOk (l.take i) x = false) : validM l = false := by
  cases hv : validM l with
  | false => rfl
  | true =>
    have := (valid_ok hv).1 i x (List.getElem?_eq_some_iff.1 hx).1 hx
    rw [h] at this; cases this
section
variable {H H' H0 : Hp} {Q : Value → Hp → Prop}
theorem c57 {A : Option Addr} {n c : Nat} {l : List Int} {x : Int} (hA : SlAt inC H A n l) (hq : Q (.bool (l.any fun y => y == x)) H) : HCalls Tryz.prog 57 [.slice A n c, .int .i64 x] H Q := by
  refine f57.ok _ _ _ _ ?_
  unfold f57
  obtain rfl := hA.len
  have hlt := hA.lt
  refine scan hlt (fun i H' => H' = H ∧ (l.take i).any (fun y => y == x) = false) ⟨rfl, by simp⟩ (fun i H2 next hi hI hnext => ?_) (fun H2 next hI => ?_)
  · obtain ⟨rfl, hno⟩ := hI
    obtain ⟨y, hy⟩ := get_of hi
    dsimp only
    refine cndT (decide_eq_true (by omega)) ⟨by omega, by omega, rd_in hA hy fun q o _ k1 => ⟨y, by simpa using k1, cndI (fun h => ?_) fun h => ⟨rfl, hnext H2 ⟨rfl, ?_⟩⟩⟩⟩
    · rw [any_hit hy h] at hq; exact hq
    · rw [any_take_succ hy, hno, h]; rfl
  · obtain ⟨rfl, hno⟩ := hI
    dsimp only
    rw [any_done hno] at hq
    exact cndF (decide_eq_false (by omega)) hq
theorem c56 {x : Ev} (hq : Q (.bool (evR x)) H) : HCalls Tryz.prog 56 [.agg #[.int .i64 x.op, .int .i64 x.txn, .int .i64 x.item, .int .i64 x.frm, .int .i64 x.stmt]] H Q := by
  refine f56.ok _ _ _ _ _ ?_
  unfold f56
  unfold evR inB plainB at hq
  refine jn_intro (fun J => ∀ b, b = !(decide (1 ≤ x.txn) && decide (x.txn ≤ 200)) → J b) (fun b hb => cndI (fun ht => ?_) fun hf => ?_) fun J hJ => cndI (fun h => hJ _ ?_) fun h => hJ _ ?_
  · rw [ht] at hb
    rw [show (decide (1 ≤ x.txn) && decide (x.txn ≤ 200)) = false by rw [← Bool.not_eq_true', ← hb]] at hq
    exact hq
  · rw [hf] at hb
    rw [show (decide (1 ≤ x.txn) && decide (x.txn ≤ 200)) = true by rw [← Bool.not_eq_false', ← hb], Bool.true_and] at hq
    refine jn_intro (fun J => J (x.op == 2 || x.op == 3)) ?_ fun J hJ => cndI (fun h => by rw [h] at hJ ⊢; exact hJ) fun h => by rw [h] at hJ; exact hJ
    refine cndI (fun h23 => ?_) fun h23 => ?_
    · rw [h23, if_pos rfl] at hq
      refine jn_intro (fun J => J (decide (1 ≤ x.item) && decide (x.item ≤ 200) && (decide (1 ≤ x.stmt) && (x.frm == 0 || x.op == 2)))) hq fun J hJ => cndI (fun h1 => cndI (fun h2 => cndI (fun h3 => cndI (fun h4 => ?_) fun h4 => ?_) fun h3 => ?_) fun h2 => ?_) fun h1 => ?_
      · rw [show decide (1 ≤ x.item) = true from h1, h2, show decide (1 ≤ x.stmt) = true from h3, h4] at hJ; exact hJ
      · rw [show decide (1 ≤ x.item) = true from h1, h2, show decide (1 ≤ x.stmt) = true from h3, h4] at hJ; exact hJ
      · rw [show decide (1 ≤ x.stmt) = false from h3, Bool.false_and, Bool.and_false] at hJ; exact hJ
      · rw [h2, Bool.and_false, Bool.false_and] at hJ; exact hJ
      · rw [show decide (1 ≤ x.item) = false from h1, Bool.false_and, Bool.false_and] at hJ; exact hJ
    · rw [h23, if_neg (by decide)] at hq
      refine jn_intro (fun J => J (x.op == 1 || (x.op == 4 || x.op == 5))) ?_ fun J hJ => cndI (fun h => by rw [h] at hJ ⊢; exact hJ) fun h => cndI (fun h' => by rw [h, h'] at hJ; rw [h']; exact hJ) fun h' => by rw [h, h'] at hJ; exact hJ
      refine cndI (fun h => ?_) fun h => ?_
      · rw [h, if_pos rfl] at hq
        refine jn_intro (fun J => J (x.item == 0 && (x.frm == 0 && x.stmt == 0))) hq fun J hJ => cndI (fun h1 => cndI (fun h2 => ?_) fun h2 => ?_) fun h1 => ?_
        · rw [h1, h2] at hJ; exact hJ
        · rw [h2, Bool.false_and, Bool.and_false] at hJ; exact hJ
        · rw [h1, Bool.false_and] at hJ; exact hJ
      · rw [h, if_neg (by decide)] at hq; exact hq
  · have : ¬ 1 ≤ x.txn := by have := of_decide_eq_true h; omega
    rw [decide_eq_false this]; rfl
  · have : 1 ≤ x.txn := by have := of_decide_eq_false h; omega
    rw [decide_eq_true this, Bool.true_and, ← decide_not]
    exact decide_eq_decide.2 (by omega)
end
end Go.Proofs.YtibhpoikhkokiaaGreat.Hw

/- The document's histories: Valid (c21). -/
set_option linter.unusedVariables false
set_option linter.unusedSimpArgs false
set_option linter.unusedSectionVars false
set_option maxRecDepth 20000
namespace Go.Proofs.YtibhpoikhkokiaaGreat.Hw
open Go Go.Proofs
/-- What the document knows of a transaction. -/
structure StV where
  b : Bool
  e : Bool
  s : Int
  A : Option Addr
  c : Nat
  w : List Int
def stC4 (v : StV) : List Value := [.bool v.b, .bool v.e, .int .i64 v.s, .slice v.A v.w.length v.c]
structure StAt (H0 H : Hp) (g : Nat) (f : Nat → StV) : Prop where
  ext : Ext H0 H
  g0 : H0 g = none
  arr : PArr H g 84 4 201 (fun t => stC4 (f t))
  row : ∀ t, t < 201 → Row H0 H (f t).A (f t).w.length (f t).c 1 ((f t).w.flatMap inC)
  ng : ∀ t, t < 201 → ¬ rowB (f t).A g
  dj : ∀ t u, t < 201 → u < 201 → t ≠ u → ∀ q, rowB (f t).A q → ¬ rowB (f u).A q
structure StOf (p : List Ev) (f : Nat → StV) : Prop where
  b : ∀ t, t < 201 → (f t).b = begunM p t
  e : ∀ t, t < 201 → (f t).e = endedM p t
  s : ∀ t, t < 201 → (f t).s = stmtM p t
  w : ∀ t, t < 201 → ∀ i, i ∈ (f t).w ↔ wroteM p t i = true
  l : ∀ t, t < 201 → (f t).w.length ≤ p.length
theorem StOf.step {p : List Ev} {x : Ev} {f f' : Nat → StV} {t : Nat} (h : StOf p f) (ht : (t : Int) = x.txn) (hoff : ∀ u, u ≠ t → f' u = f u) (hb : (f' t).b = ((f t).b || x.op == 1)) (he : (f' t).e = ((f t).e || (x.op == 4 || x.op == 5)))
    (hs : (f' t).s = if x.op == 2 || x.op == 3 then x.stmt else (f t).s) (hw : ∀ i, i ∈ (f' t).w ↔ i ∈ (f t).w ∨ (x.op = 3 ∧ x.item = i)) (hl : (f' t).w.length ≤ p.length + 1) : StOf (p ++ [x]) f' := by
  have off : ∀ u : Nat, u ≠ t → (x.txn == (u : Int)) = false := fun u hu => by
    have : x.txn ≠ (u : Int) := by omega
    simpa using this
  have on : (x.txn == (t : Int)) = true := by simpa using ht.symm
  refine ⟨fun u hu => ?_, fun u hu => ?_, fun u hu => ?_, fun u hu i => ?_, fun u hu => ?_⟩
  · rw [begun_snoc]
    unfold isB
    by_cases e : u = t
    · rw [e, hb, on, h.b t (by omega), Bool.and_true]
    · rw [hoff u e, off u e, Bool.and_false, Bool.or_false]; exact h.b u hu
  · rw [ended_snoc]
    unfold isE
    by_cases e : u = t
    · rw [e, he, on, h.e t (by omega), Bool.and_true]
    · rw [hoff u e, off u e, Bool.and_false, Bool.or_false]; exact h.e u hu
  · rw [stmt_snoc]
    unfold stmtStep
    by_cases e : u = t
    · rw [e, hs, on, h.s t (by omega), Bool.and_true]
    · rw [hoff u e, off u e, Bool.and_false, if_neg (by decide)]; exact h.s u hu
  · rw [wrote_snoc, Bool.or_eq_true, isW_iff]
    by_cases e : u = t
    · rw [e, hw, h.w t (by omega)]
      exact or_congr_right ⟨fun h => ⟨h.1, ht.symm, h.2⟩, fun h => ⟨h.1, h.2.2⟩⟩
    · rw [hoff u e, h.w u hu]
      constructor
      · exact .inl
      · rintro (h1 | h1)
        · exact h1
        · have := h1.2.1; omega
  · rw [List.length_append, List.length_singleton]
    by_cases e : u = t
    · rw [e]; exact hl
    · rw [hoff u e]; have := h.l u hu; omega
def setV (f : Nat → StV) (t : Nat) (v : StV) : Nat → StV := fun u => if u = t then v else f u
theorem setV_at {f : Nat → StV} {t : Nat} {v : StV} : setV f t v t = v := if_pos rfl
theorem setV_off {f : Nat → StV} {t u : Nat} {v : StV} (h : u ≠ t) : setV f t v u = f u := if_neg h
section
variable {H H' H0 : Hp} {Q : Value → Hp → Prop} {g : Nat} {f : Nat → StV}
theorem StAt.cell (S : StAt H0 H g f) {t j : Nat} {v : Value} (ht : t < 201) (hv : (stC4 (f t))[j]? = some v) : cl H g (0 + t * 4 + j) = some v := by
  rw [Nat.zero_add]; exact S.arr.get ht hv
theorem StAt.grow (S : StAt H0 H g f) (hx : Ext H H') : StAt H0 H' g f :=
  ⟨S.ext.trans hx, S.g0, S.arr.keep (ext_at hx S.arr.live), fun t ht => (S.row t ht).keep fun q hq => ext_at hx ((S.row t ht).lt hq).1, S.ng, S.dj⟩
theorem StAt.scalar (S : StAt H0 H g f) {t j : Nat} {v : Value} {u : StV} {K : Hp → Prop} (ht : t < 201) (hj : j < 4) (hu : stC4 u = (stC4 (f t)).set j v) (hA : u.A = (f t).A) (hc : u.c = (f t).c) (hw : u.w = (f t).w)
    (hk : ∀ H', StAt H0 H' g (setV f t u) → K H') : storeF H g (0 + t * 4 + j) [v] K := by
  rw [Nat.zero_add]
  refine S.arr.set (F' := fun z => stC4 (setV f t u z)) ht hj (by rw [setV_at]; exact hu) (fun z hz => by rw [setV_off hz]) fun H' hP hfr => hk H' ?_
  have hq : ∀ z, (setV f t u z).A = (f z).A ∧ (setV f t u z).c = (f z).c ∧ (setV f t u z).w = (f z).w := fun z => by
    by_cases e : z = t
    · rw [e, setV_at]; exact ⟨hA, hc, hw⟩
    · rw [setV_off e]; exact ⟨rfl, rfl, rfl⟩
  refine ⟨fun q o hq' => ?_, S.g0, hP, fun z hz => ?_, fun z hz => ?_, fun y z hy hz hne q => ?_⟩
  · rw [hfr q fun e => by rw [e, S.g0] at hq'; cases hq']
    exact S.ext q o hq'
  · rw [(hq z).1, (hq z).2.1, (hq z).2.2]
    exact (S.row z hz).keep fun q hb => hfr q fun e => S.ng z hz (e ▸ hb)
  · rw [(hq z).1]; exact S.ng z hz
  · rw [(hq y).1, (hq z).1]; exact S.dj y z hy hz hne q
theorem StAt.push (S : StAt H0 H g f) {t : Nat} {i : Int} {K : Hp → Prop} (ht : t < 201) (hl : (f t).w.length < big) {g48 : Nat} (hg : H g48 = none)
    (hk : ∀ H' A c, StAt H0 H' g (setV f t ⟨(f t).b, (f t).e, (f t).s, A, c, (f t).w ++ [i]⟩) → K H') :
    appendF (upd g48 (.cells [Value.int .i64 i].toArray 3 (0, 0)) H) 3 1 8 (f t).A (f t).w.length (f t).c (some ⟨g48, 0, none⟩) 1 fun A50 n50 c50 H51 => storeF H51 g (0 + t * 4 + 3) [.slice A50 n50 c50] K := by
  refine Row.push1 (w := i) (f := inC) (k := 1) (ty := 3) (fun _ => rfl) (fun x v hv => by obtain rfl := List.mem_singleton.1 hv; rfl) (by omega) (S.row t ht) S.ext hl hg fun A2 c2 H2 R2 x2 fr2 nb2 => ?_
  have keep : ∀ q, H q ≠ none → ¬ rowB (f t).A q → H2 q = H q := fun q h1 h2 => by
    apply Classical.byContradiction
    intro hne
    rcases fr2 q hne with h | h
    · exact h2 h
    · exact h1 h
  have nb : ∀ q, H q ≠ none → ¬ rowB (f t).A q → ¬ rowB A2 q := fun q h1 h2 h3 => by
    rcases nb2 q h3 with h | h
    · exact h2 h
    · exact h1 h
  have hg2 : H2 g = H g := keep g S.arr.live (S.ng t ht)
  rw [Nat.zero_add]
  refine (S.arr.keep hg2).set (F' := fun z => stC4 (setV f t ⟨(f t).b, (f t).e, (f t).s, A2, c2, (f t).w ++ [i]⟩ z)) ht (by omega) (by rw [setV_at]; rfl) (fun z hz => by rw [setV_off hz]) fun H' hP hfr => hk H' A2 c2 ?_
  have hng2 : ¬ rowB A2 g := nb g S.arr.live (S.ng t ht)
  have hrow : ∀ z, z < 201 → z ≠ t → ∀ q, rowB (f z).A q → H q ≠ none ∧ ¬ rowB (f t).A q := fun z hz hne q hq => ⟨((S.row z hz).lt hq).1, fun h => S.dj z t hz ht hne q hq h⟩
  refine ⟨fun q o hq' => ?_, S.g0, hP, fun z hz => ?_, fun z hz => ?_, fun y z hy hz hne q hq1 hq2 => ?_⟩
  · rw [hfr q fun e => by rw [e, S.g0] at hq'; cases hq']
    exact x2 q o hq'
  · by_cases e : z = t
    · rw [e, setV_at]
      exact R2.keep fun q hb => hfr q fun e => hng2 (e ▸ hb)
    · rw [setV_off e]
      refine (S.row z hz).keep fun q hb => ?_
      rw [hfr q fun e => S.ng z hz (e ▸ hb)]
      exact keep q (hrow z hz e q hb).1 (hrow z hz e q hb).2
  · by_cases e : z = t
    · rw [e, setV_at]; exact hng2
    · rw [setV_off e]; exact S.ng z hz
  · by_cases e1 : y = t
    · by_cases e2 : z = t
      · exact hne (e1.trans e2.symm)
      · rw [e1, setV_at] at hq1
        rw [setV_off e2] at hq2
        exact nb q (hrow z hz e2 q hq2).1 (hrow z hz e2 q hq2).2 hq1
    · rw [setV_off e1] at hq1
      by_cases e2 : z = t
      · rw [e2, setV_at] at hq2
        exact nb q (hrow y hy e1 q hq1).1 (hrow y hy e1 q hq1).2 hq2
      · rw [setV_off e2] at hq2
        exact S.dj y z hy hz hne q hq1 hq2
def st0 : StV := ⟨false, false, 0, none, 0, []⟩
theorem zero4 : (List.replicate ((201 : Int).toNat) [Value.bool false, .bool false, .int .i64 0, .slice none 0 0]).flatten = (List.range 201).flatMap fun _ => stC4 st0 := by rfl
theorem stOf_nil : StOf [] fun _ => st0 := ⟨fun _ _ => rfl, fun _ _ => rfl, fun _ _ => rfl, fun t _ i => by unfold st0 wroteM; simp, fun _ _ => Nat.le_refl _⟩
theorem c21 {A : Option Addr} {n c : Nat} {l : List Ev} (hA : SlAt evC H A n l) (hq : ∀ H', Ext H H' → Q (.bool (validM l)) H') : HCalls Tryz.prog 21 [.slice A n c] H Q := by
  refine f21.ok _ _ _ ?_
  unfold f21
  obtain rfl := hA.len
  have hlt := hA.lt
  refine cndI (fun hbig => ?_) fun hsm => ?_
  · have : validM l = false := by
      unfold validM
      rw [decide_eq_false (by have := of_decide_eq_true hbig; omega)]; rfl
    rw [this] at hq
    exact hq H (Ext.refl _)
  have hlen : l.length ≤ 2000 := by have := of_decide_eq_false hsm; omega
  refine ⟨rfl, by decide, by decide, fun g1 hg1 => ?_⟩
  rw [zero4]
  have S2 : StAt H (upd g1 (Obj.cells ((List.range 201).flatMap fun _ => stC4 st0).toArray 84 (0, 0)) H) g1 (fun _ => st0) :=
    ⟨Ext.new hg1, hg1, ⟨fun _ => rfl, upd_at⟩, fun t _ => Row.nil, fun t _ ⟨o, z, h⟩ => (by cases h), fun t u _ _ _ q ⟨o, z, h⟩ => (by cases h)⟩
  generalize (upd g1 (Obj.cells ((List.range 201).flatMap fun _ => stC4 st0).toArray 84 (0, 0)) H) = H2 at S2 ⊢
  refine scan hlt (fun i H' => OkTo l i ∧ ∃ f, StAt H H' g1 f ∧ StOf (l.take i) f) ⟨fun i x hi => by omega, _, S2, stOf_nil⟩ (fun i H4 next hi hI hnext => ?_) (fun H4 next hI => ?_)
  rotate_left
  · obtain ⟨hok, f, S, O⟩ := hI
    dsimp only
    have : validM l = true := by
      unfold validM
      rw [decide_eq_true hlen, good_iff.2 hok]; rfl
    rw [this] at hq
    exact cndF (decide_eq_false (by omega)) (hq H4 S.ext)
  obtain ⟨hok, f, S, O⟩ := hI
  obtain ⟨x, hx⟩ := get_of hi
  have hokp := ok_take hok (by omega)
  have hpl : (l.take i).length = i := by rw [List.length_take]; omega
  have hbad : evOk (l.take i) x = false → ∀ H', Ext H H' → Q (.bool false) H' := fun h H' hx' => by
    rw [bad_at hx h] at hq; exact hq H' hx'
  have hgood : evOk (l.take i) x = true → OkTo l (i + 1) := fun h j y hj hy => by
    by_cases e : j = i
    · subst e; rw [hx] at hy; cases hy; exact h
    · exact hok j y (by omega) hy
  have hsnoc := take_snoc hx
  generalize hp : l.take i = p at O hokp hpl hbad hgood hsnoc
  dsimp only
  refine cndT (decide_eq_true (by omega)) (jn_intro (fun J => evOk p x = true → ∀ H' f', StAt H H' g1 f' → StOf (p ++ [x]) f' → J H') (fun he H' f' S' O' => ⟨rfl, hnext H' ⟨hgood he, f', S', by rw [hsnoc]; exact O'⟩⟩) fun J hJ => ⟨by omega, by omega, rd_ev (hA.ext S.ext) hx fun q o _ k1 k2 k3 k4 k5 => ⟨x.op, by simpa using k1, x.txn, by simpa using k2, x.item, by simpa using k3, x.frm, by simpa using k4, x.stmt, by simpa using k5, c56 ⟨_, rfl, cndI (fun hn => hbad ?_ H4 S.ext) fun hn => ?_⟩⟩⟩)
  · have hn : evR x = false := by simpa using hn
    rw [evOk_split, hn]; rfl
  have hR : evR x = true := by simpa using hn
  have hin : 1 ≤ x.txn ∧ x.txn ≤ 200 := by
    have := (Bool.and_eq_true_iff.1 hR).1
    unfold inB at this; simp at this; exact this
  have hsp : evOk p x = (!endedM p x.txn && ((begunM p x.txn != (x.op == 1)) && restB p x)) := by rw [evOk_split, hR, Bool.true_and]
  have ht : x.txn.toNat < 201 := by omega
  have hte : ((x.txn.toNat : Nat) : Int) = x.txn := by omega
  generalize htt : x.txn.toNat = t at ht hte
  have hb := O.b t ht
  have he := O.e t ht
  have hs := O.s t ht
  rw [hte] at hb he hs
  have hx201 : x.txn < ((201 : Nat) : Int) := by omega
  refine ⟨by omega, hx201, ?_⟩
  refine jn_intro (fun J => ∀ b, b = (endedM p x.txn || (begunM p x.txn == (x.op == 1))) → J b) (fun b hbb => cndI (fun hbt => hbad ?_ H4 S.ext) fun hbf => ?_) fun J hJ => ⟨_, S.cell (j := 1) ht rfl, cndI (fun h => hJ _ (by rw [← he, h]; rfl)) fun h => ⟨_, S.cell (j := 0) ht rfl, hJ _ (by rw [← he, h, hb]; rfl)⟩⟩
  · rw [hbt] at hbb
    rw [hsp]
    cases h1 : endedM p x.txn with
    | true => rfl
    | false =>
      rw [h1, Bool.false_or] at hbb
      have : (begunM p x.txn != (x.op == 1)) = false := by unfold bne; rw [← hbb]; rfl
      rw [this]; rfl
  rw [hbf] at hbb
  have hbb := hbb.symm
  rw [Bool.or_eq_false_iff] at hbb
  have hsp : evOk p x = restB p x := by
    rw [hsp, hbb.1]
    have : (begunM p x.txn != (x.op == 1)) = true := by unfold bne; rw [hbb.2]; rfl
    rw [this]; rfl
  refine cndI (fun h1 => ?_) fun h1 => ?_
  · have o1 : x.op = 1 := by simpa using h1
    refine S.scalar (j := 0) (u := ⟨true, (f t).e, (f t).s, (f t).A, (f t).c, (f t).w⟩) ht (by omega) rfl rfl rfl rfl fun H19 S19 => hJ (by rw [hsp]; unfold restB; simp [o1]) H19 _ S19 (O.step hte (fun u hu => setV_off hu) ?_ ?_ ?_ ?_ ?_)
    · rw [setV_at]; simp [o1]
    · rw [setV_at]; simp [o1]
    · rw [setV_at]; simp [o1]
    · intro i; rw [setV_at]; simp [o1]
    · rw [setV_at]; have := O.l t ht; show (f t).w.length ≤ _; omega
  have o1 : x.op ≠ 1 := by simpa using h1
  refine jn_intro (fun J => J (x.op == 4 || x.op == 5)) ?_ fun J hJ => cndI (fun h => by rw [h] at hJ ⊢; exact hJ) fun h => by rw [h] at hJ; exact hJ
  refine cndI (fun h45 => ?_) fun h45 => ?_
  · have o45 : x.op = 4 ∨ x.op = 5 := by simpa using h45
    refine S.scalar (j := 1) (u := ⟨(f t).b, true, (f t).s, (f t).A, (f t).c, (f t).w⟩) ht (by omega) rfl rfl rfl rfl fun H19 S19 => hJ (by rw [hsp]; unfold restB; rcases o45 with h | h <;> simp [h]) H19 _ S19 (O.step hte (fun u hu => setV_off hu) ?_ ?_ ?_ ?_ ?_)
    · rw [setV_at]; simp [o1]
    · rw [setV_at, h45]; simp
    · rw [setV_at]; rcases o45 with h | h <;> simp [h]
    · intro i; rw [setV_at]; rcases o45 with h | h <;> simp [h]
    · rw [setV_at]; have := O.l t ht; show (f t).w.length ≤ _; omega
  have o23 : x.op = 2 ∨ x.op = 3 := by
    unfold evR at hR
    have e1 : (x.op == 1) = false := h1
    rw [e1, h45] at hR
    simp only [Bool.or_self, Bool.false_eq_true, if_false] at hR
    have h2 := (Bool.and_eq_true_iff.1 hR).2
    split at h2
    · rename_i h3; simpa using h3
    · cases h2
  have h23 : (x.op == 2 || x.op == 3) = true := by rcases o23 with h | h <;> simp [h]
  refine ⟨_, S.cell (j := 2) ht rfl, ?_⟩
  rw [hs]
  refine cndI (fun hlt2 => hbad ?_ H4 S.ext) fun hge => ?_
  · rw [hsp]
    unfold restB
    have : ¬ stmtM p x.txn ≤ x.stmt := by have := of_decide_eq_true hlt2; omega
    rcases o23 with h | h <;> simp [h, this]
  have hge : stmtM p x.txn ≤ x.stmt := by have := of_decide_eq_false hge; omega
  refine S.scalar (j := 2) (u := ⟨(f t).b, (f t).e, x.stmt, (f t).A, (f t).c, (f t).w⟩) ht (by omega) rfl rfl rfl rfl fun H24 S24 => ?_
  have hwm : ∀ z, (setV f t ⟨(f t).b, (f t).e, x.stmt, (f t).A, (f t).c, (f t).w⟩ z).w = (f z).w ∧ (setV f t ⟨(f t).b, (f t).e, x.stmt, (f t).A, (f t).c, (f t).w⟩ z).e = (f z).e := fun z => by
    by_cases e : z = t
    · rw [e, setV_at]; exact ⟨rfl, rfl⟩
    · rw [setV_off e]; exact ⟨rfl, rfl⟩
  have O24 : x.op = 2 → StOf (p ++ [x]) (setV f t ⟨(f t).b, (f t).e, x.stmt, (f t).A, (f t).c, (f t).w⟩) := fun o2 => by
    refine O.step hte (fun u hu => setV_off hu) ?_ ?_ ?_ ?_ ?_
    · rw [setV_at]; simp [o2]
    · rw [setV_at]; simp [o2]
    · rw [setV_at]; simp [o2]
    · intro i; rw [setV_at]; simp [o2]
    · rw [setV_at]; have := O.l t ht; show (f t).w.length ≤ _; omega
  have O24w : ∀ A2 c2, x.op = 3 → x.item ∉ (f t).w → StOf (p ++ [x]) (setV (setV f t ⟨(f t).b, (f t).e, x.stmt, (f t).A, (f t).c, (f t).w⟩) t ⟨(f t).b, (f t).e, x.stmt, A2, c2, (f t).w ++ [x.item]⟩) := fun A2 c2 o3 hni => by
    refine O.step hte (fun u hu => by rw [setV_off hu, setV_off hu]) ?_ ?_ ?_ ?_ ?_
    · rw [setV_at]; simp [o3]
    · rw [setV_at]; simp [o3]
    · rw [setV_at]; simp [o3]
    · intro i; rw [setV_at]; simp [o3, eq_comm]
    · rw [setV_at]; have := O.l t ht; show ((f t).w ++ [x.item]).length ≤ _; rw [List.length_append, List.length_singleton]; omega
  have O24s : x.op = 3 → x.item ∈ (f t).w → StOf (p ++ [x]) (setV f t ⟨(f t).b, (f t).e, x.stmt, (f t).A, (f t).c, (f t).w⟩) := fun o3 hi' => by
    refine O.step hte (fun u hu => setV_off hu) ?_ ?_ ?_ ?_ ?_
    · rw [setV_at]; simp [o3]
    · rw [setV_at]; simp [o3]
    · rw [setV_at]; simp [o3]
    · intro i; rw [setV_at]
      show i ∈ (f t).w ↔ _
      constructor
      · exact .inl
      · rintro (h | ⟨_, rfl⟩)
        · exact h
        · exact hi'
    · rw [setV_at]; have := O.l t ht; show (f t).w.length ≤ _; omega
  have hf2 : setV f t ⟨(f t).b, (f t).e, x.stmt, (f t).A, (f t).c, (f t).w⟩ t = ⟨(f t).b, (f t).e, x.stmt, (f t).A, (f t).c, (f t).w⟩ := setV_at
  generalize hF : setV f t ⟨(f t).b, (f t).e, x.stmt, (f t).A, (f t).c, (f t).w⟩ = f2 at S24 hwm O24 O24w O24s hf2
  have hslot : ∀ z, z < 201 → SlAt inC H24 (f2 z).A (f2 z).w.length (f2 z).w := fun z hz => ⟨rfl, (S24.row z hz).cells, by rw [(hwm z).1]; have := O.l z hz; unfold huge; omega⟩
  have hany : ∀ z, z < 201 → ((f2 z).w.any fun y => y == x.item) = wroteM p z x.item := fun z hz => by
    rw [Bool.eq_iff_iff, List.any_eq_true, ← O.w z hz, (hwm z).1]
    constructor
    · rintro ⟨y, hy, h⟩
      have : y = x.item := by simpa using h
      rw [← this]; exact hy
    · intro h; exact ⟨_, h, by simp⟩
  refine jn_intro (fun J => ∀ b, b = ((x.op == 2) && ((x.frm != 0) && !wroteM p x.frm x.item)) → J b H24) (fun b hbb2 => cndI (fun hbt => hbad ?_ H24 S24.ext) fun hbf => ?_) fun J hJ => ?_
  · rw [hbt] at hbb2
    have h := hbb2.symm
    simp only [Bool.and_eq_true, beq_iff_eq, bne_iff_ne, ne_eq, Bool.not_eq_true'] at h
    rw [hsp]
    unfold restB
    simp [h.1, h.2.1, h.2.2]
  · rw [hbf] at hbb2
    refine cndI (fun h2 => ?_) fun h2 => ?_
    · have o2 : x.op = 2 := by simpa using h2
      refine hJ ?_ H24 _ S24 (O24 o2)
      rw [hsp]
      unfold restB
      rw [h2, Bool.true_and] at hbb2
      rw [if_pos (by simp [o2]), decide_eq_true hge, Bool.true_and]
      cases h3 : x.frm == 0 with
      | true => rfl
      | false =>
        unfold bne at hbb2
        rw [h3] at hbb2
        simpa using hbb2.symm
    · have o2 : x.op ≠ 2 := by simpa using h2
      have o3 : x.op = 3 := by omega
      have hrest : restB p x = !takenB p x.txn x.item := by unfold restB; rw [if_neg (by simp [o3]), if_pos (by simp [o3]), decide_eq_true hge, Bool.true_and]
      rw [hrest] at hsp
      refine scan (n := 201) (by omega) (fun m H' => H' = H24 ∧ ∀ z : Nat, z < m → ¬ ((z : Int) ≠ x.txn ∧ endedM p z = false ∧ wroteM p z x.item = true)) ⟨rfl, fun z hz => by omega⟩ (fun m H33 next2 hm hI hnext2 => ?_) (fun H33 next2 hI => ?_)
      · obtain ⟨rfl, hno⟩ := hI
        dsimp only
        have hm201 : (m : Int) < ((201 : Nat) : Int) := by omega
        have em : ((m : Int)).toNat = m := by omega
        refine cndT (decide_eq_true hm201) (jn_intro (fun J => ∀ b, b = (((m : Int) != x.txn) && (!endedM p m && wroteM p m x.item)) → J b H33) (fun b hbb3 => cndI (fun hbt => hbad ?_ H33 S24.ext) fun hbf => ⟨rfl, hnext2 H33 ⟨rfl, fun z hz => ?_⟩⟩) fun J hJ => cndI (fun hne => ⟨by omega, hm201, _, by rw [em]; exact S24.cell (j := 1) hm rfl, cndI (fun hnE => ⟨by omega, hm201, _, _, _, by rw [em]; exact S24.cell (j := 3) hm rfl, c57 (hslot m hm) ⟨_, rfl, hJ _ ?_⟩⟩) fun hE => hJ _ ?_⟩) fun heq => hJ _ ?_)
        · rw [hbt] at hbb3
          have h := hbb3.symm
          simp only [Bool.and_eq_true, bne_iff_ne, ne_eq, Bool.not_eq_true'] at h
          rw [hsp, taken_iff hokp |>.2 ⟨m, hm, h.1, h.2.1, h.2.2⟩]; rfl
        · by_cases e : z = m
          · subst e
            rintro ⟨a1, a2, a3⟩
            rw [hbf] at hbb3
            have := hbb3.symm
            rw [a2, a3] at this
            simp at this
            exact a1 this
          · exact hno z (by omega)
        · have hnE : (f2 m).e = false := by simpa using hnE
          rw [(hwm m).2, O.e m hm] at hnE
          rw [hany m hm, hnE, show ((m : Int) != x.txn) = true from hne]; rfl
        · have hE : (f2 m).e = true := by simpa using hE
          rw [(hwm m).2, O.e m hm] at hE
          rw [hE]; simp
        · rw [show ((m : Int) != x.txn) = false from heq]; rfl
      · obtain ⟨rfl, hno⟩ := hI
        dsimp only
        have hnt : takenB p x.txn x.item = false := by
          rw [← Bool.not_eq_true, taken_iff hokp]
          rintro ⟨z, hz, h⟩
          exact hno z hz h
        rw [hnt] at hsp
        have hw3 : cl H33 g1 (0 + t * 4 + 3) = some (.slice (f t).A (f t).w.length (f t).c) := by
          have := S24.cell (j := 3) ht (v := .slice (f2 t).A (f2 t).w.length (f2 t).c) rfl
          rw [hf2] at this; exact this
        have hst := hslot t ht
        rw [hf2] at hst
        refine cndF (by decide) ⟨_, _, _, hw3, c57 hst ⟨_, rfl, cndI (fun hn => ⟨_, _, _, hw3, fun g48 hg48 => ?_⟩) fun hn => ?_⟩⟩
        · have hni : x.item ∉ (f t).w := fun h => by
            have : ((f t).w.any fun y => y == x.item) = true := List.any_eq_true.2 ⟨_, h, by simp⟩
            rw [this] at hn; cases hn
          have := S24.push (i := x.item) (K := J) ht (by rw [hf2]; have := O.l t ht; unfold big; show (f t).w.length < _; omega) hg48 fun H52 A2 c2 S52 => hJ hsp H52 _ S52 (by rw [hf2]; exact O24w A2 c2 o3 hni)
          rw [hf2] at this
          exact this
        · have hi' : x.item ∈ (f t).w := by
            have hn : ((f t).w.any fun y => y == x.item) = true := by simpa using hn
            obtain ⟨y, hy, h⟩ := List.any_eq_true.1 hn
            have : y = x.item := by simpa using h
            rw [← this]; exact hy
          exact hJ hsp H33 _ S24 (O24s o3 hi')
  · refine cndI (fun h2 => cndI (fun h0 => cndI (fun hneg => hJ _ ?_) fun hneg => cndI (fun hbig2 => hJ _ ?_) fun hbig2 => ?_) fun h0 => hJ _ ?_) fun h2 => hJ _ ?_
    · have hw : wroteM p x.frm x.item = false := by
        rw [← Bool.not_eq_true]
        intro h
        have := txn_in hokp h
        have := of_decide_eq_true hneg
        omega
      rw [h2, h0, hw]; rfl
    · have hw : wroteM p x.frm x.item = false := by
        rw [← Bool.not_eq_true]
        intro h
        have := txn_in hokp h
        have := of_decide_eq_true hbig2
        omega
      rw [h2, h0, hw]; rfl
    · have hneg := of_decide_eq_false hneg
      have hbig2 := of_decide_eq_false hbig2
      have h201 : x.frm < ((201 : Nat) : Int) := by omega
      have hfz : x.frm.toNat < 201 := by omega
      have hfe : ((x.frm.toNat : Nat) : Int) = x.frm := by omega
      refine ⟨by omega, h201, _, _, _, S24.cell (j := 3) hfz rfl, c57 (hslot _ hfz) ⟨_, rfl, hJ _ ?_⟩⟩
      rw [hany _ hfz, hfe, h2, h0]; rfl
    · rw [h0]; simp
    · rw [h2]; rfl
end
end Go.Proofs.YtibhpoikhkokiaaGreat.Hw

/- What functions of the program come to, by the evaluator: printed by a program of this session (gen.py) and checked here. -/
set_option linter.unusedVariables false
set_option maxRecDepth 100000
namespace Go.Proofs.YtibhpoikhkokiaaGreat.Hw
open Go Go.Proofs

/-- justiciar justiciarref29.Arcs -/
def f19 (pl_A : Option Addr) (pl_n pl_c : Nat) (H : Hp) (Q : Value → Hp → Prop) : Prop :=
  HCalls Tryz.prog 21 [.slice pl_A pl_n pl_c] H fun v1 H2 => ∃ x3 : Bool, v1 = .bool x3 ∧ cnd (!x3) (Q (.tuple #[.slice none 0 0, .int .i64 2]) H2) (HCalls Tryz.prog 54 [.slice pl_A pl_n pl_c] H2 fun v4 H5 => ∃ p6 : Option
    Addr, v4 = .pointer p6 ∧ HCalls Tryz.prog 55 [.pointer p6] H5 fun v7 H8 => ∃ (A9 : Option Addr) (n9 c9 : Nat), v7 = .slice A9 n9 c9 ∧ Q (.tuple #[.slice A9 n9 c9, .int .i64 0]) H8)
/-- justiciar justiciarref29.SameArcs -/
def f20 (pa_A : Option Addr) (pa_n pa_c : Nat) (pb_A : Option Addr) (pb_n pb_c : Nat) (H : Hp) (Q : Value → Hp → Prop) : Prop :=
  cnd ((((pa_n : Nat) : Int) : Int) != ((pb_n : Nat) : Int)) (Q (.bool false) H) (LoopF (σ := (Int × Unit) × Unit) ((0, ()), ()) H fun s1 H2 next3 => cnd (decide ((s1.1.1 : Int) < ((pa_n : Nat) : Int))) (0 ≤ (s1.1.1 : Int)
    ∧ (s1.1.1 : Int) < ((pa_n : Nat) : Int) ∧ onPtr pa_A fun b4 o4 => ∃ x5 : Int, cl H2 b4 (o4 + (s1.1.1 : Int).toNat * 4) = some (.int .i64 x5) ∧ ∃ x6 : Int, cl H2 b4 ((o4 + (s1.1.1 : Int).toNat * 4) + 1) = some (.int
    .i64 x6) ∧ ∃ x7 : Int, cl H2 b4 (((o4 + (s1.1.1 : Int).toNat * 4) + 1) + 1) = some (.int .i64 x7) ∧ ∃ x8 : Int, cl H2 b4 ((((o4 + (s1.1.1 : Int).toNat * 4) + 1) + 1) + 1) = some (.int .i64 x8) ∧ 0 ≤ (s1.1.1 : Int) ∧
    (s1.1.1 : Int) < ((pb_n : Nat) : Int) ∧ onPtr pb_A fun b9 o9 => ∃ x10 : Int, cl H2 b9 (o9 + (s1.1.1 : Int).toNat * 4) = some (.int .i64 x10) ∧ ∃ x11 : Int, cl H2 b9 ((o9 + (s1.1.1 : Int).toNat * 4) + 1) = some (.int
    .i64 x11) ∧ ∃ x12 : Int, cl H2 b9 (((o9 + (s1.1.1 : Int).toNat * 4) + 1) + 1) = some (.int .i64 x12) ∧ ∃ x13 : Int, cl H2 b9 ((((o9 + (s1.1.1 : Int).toNat * 4) + 1) + 1) + 1) = some (.int .i64 x13) ∧ cnd (!(((x5 :
    Int) == x10) && (((x6 : Int) == x11) && (((x7 : Int) == x12) && (((x8 : Int) == x13) && true))))) (Q (.bool false) H2) (KeepX [some (.v (.slice pa_A pa_n pa_c)), some (.v (.slice pb_A pb_n pb_c)), some (.v (.int .i64
    ((pa_n : Nat) : Int)))] [] ∧ next3 ((IntKind.i64.wrap (s1.1.1 + 1), ()), ()) H2)) (Q (.bool true) H2))
/-- justiciar justiciarref29.looked -/
def f54 (pl_A : Option Addr) (pl_n pl_c : Nat) (H : Hp) (Q : Value → Hp → Prop) : Prop :=
  ((201 : Int) = 201 ∧ 0 ≤ (201 : Int) ∧ (201 : Int) ≤ 16777216 ∧ newF H 3 (List.replicate ((201 : Int).toNat) [.int .i64 0]).flatten fun g1 H2 => newF H2 118 [.slice pl_A pl_n pl_c, .slice (some ⟨g1, 0, none⟩) ((201 :
    Int).toNat) ((201 : Int).toNat)] fun g3 H4 => ∃ (A5 : Option Addr) (n5 c5 : Nat), cl H4 g3 (0 + 1) = some (.slice A5 n5 c5) ∧ LoopF (σ := (Int × Unit) × Unit) ((0, ()), ()) H4 fun s6 H7 next8 => cnd (decide ((s6.1.1 :
    Int) < ((n5 : Nat) : Int))) (∃ (A9 : Option Addr) (n9 c9 : Nat), cl H7 g3 (0 + 1) = some (.slice A9 n9 c9) ∧ 0 ≤ (s6.1.1 : Int) ∧ (s6.1.1 : Int) < ((n9 : Nat) : Int) ∧ onPtr A9 fun b10 o10 => storeF H7 b10 (o10 +
    (s6.1.1 : Int).toNat * 1) [.int .i64 (-1)] fun H11 => KeepX [some (.v (.slice pl_A pl_n pl_c)), some (.v (.pointer (some ⟨g3, 0, none⟩))), some (.v (.int .i64 ((n5 : Nat) : Int)))] [] ∧ next8 ((IntKind.i64.wrap
    (s6.1.1 + 1), ()), ()) H11) (LoopF (σ := (Int × Unit) × Unit) ((0, ()), ()) H7 fun s12 H13 next14 => cnd (decide ((s12.1.1 : Int) < ((pl_n : Nat) : Int))) (jn (fun (H24 : Hp) => KeepX [some (.v (.pointer (some ⟨g3, 0,
    none⟩))), some (.v (.slice pl_A pl_n pl_c)), some (.v (.int .i64 ((pl_n : Nat) : Int)))] [] ∧ next14 ((IntKind.i64.wrap (s12.1.1 + 1), ()), ()) H24) fun J25 => 0 ≤ (s12.1.1 : Int) ∧ (s12.1.1 : Int) < ((pl_n : Nat) :
    Int) ∧ onPtr pl_A fun b15 o15 => ∃ x16 : Int, cl H13 b15 (o15 + (s12.1.1 : Int).toNat * 5) = some (.int .i64 x16) ∧ ∃ x17 : Int, cl H13 b15 ((o15 + (s12.1.1 : Int).toNat * 5) + 1) = some (.int .i64 x17) ∧ ∃ x18 : Int,
    cl H13 b15 (((o15 + (s12.1.1 : Int).toNat * 5) + 1) + 1) = some (.int .i64 x18) ∧ ∃ x19 : Int, cl H13 b15 ((((o15 + (s12.1.1 : Int).toNat * 5) + 1) + 1) + 1) = some (.int .i64 x19) ∧ ∃ x20 : Int, cl H13 b15 (((((o15 +
    (s12.1.1 : Int).toNat * 5) + 1) + 1) + 1) + 1) = some (.int .i64 x20) ∧ cnd ((x16 : Int) == 4) (∃ (A21 : Option Addr) (n21 c21 : Nat), cl H13 g3 (0 + 1) = some (.slice A21 n21 c21) ∧ 0 ≤ (x17 : Int) ∧ (x17 : Int) <
    ((n21 : Nat) : Int) ∧ onPtr A21 fun b22 o22 => storeF H13 b22 (o22 + (x17 : Int).toNat * 1) [.int .i64 s12.1.1] fun H23 => J25 H23) (J25 H13)) (Q (.pointer (some ⟨g3, 0, none⟩)) H13)))
noncomputable def fcx54 : Cx := cx 46 [(6, true)] [(3, ⟨[0, 3, 15], [], [(16, .int .i64)], []⟩), (8, ⟨[3, 26, 27], [], [(28, .int .i64)], []⟩)] [(11, (.look 0 (.look 1 (.look 2 (.look 3 (.look 4 (.look 5 (.look 6 (.look 7 (.act 8 .done .done))))))))))] []
theorem f54.eq (pl_A : Option Addr) (pl_n pl_c : Nat) (H : Hp) (Q : Value → Hp → Prop) : f54 pl_A pl_n pl_c H Q = wFun fcx54 Tryz.f54 [.slice pl_A pl_n pl_c] H Q := by kernel_rfl
theorem f54.ok (pl_A : Option Addr) (pl_n pl_c : Nat) {H : Hp} {Q : Value → Hp → Prop} (h : f54 pl_A pl_n pl_c H Q) : HCalls Tryz.prog 54 [.slice pl_A pl_n pl_c] H Q := hcalls_of (cxOk 46 [(6, true)] [(3, ⟨[0, 3, 15], [], [(16, .int .i64)], []⟩), (8, ⟨[3, 26, 27], [], [(28, .int .i64)], []⟩)] [(11, (.look 0 (.look 1 (.look 2 (.look 3 (.look 4 (.look 5 (.look 6 (.look 7 (.act 8 .done .done))))))))))] []) Tryz.func54 (Eq.mp (f54.eq pl_A pl_n pl_c H Q) h)

/-- (*justiciar justiciarref29.history).arcs -/
def f55 (ph_b ph_o : Nat) (H : Hp) (Q : Value → Hp → Prop) : Prop :=
  LoopF (σ := ((Option Addr × Nat × Nat) × (Int × Unit)) × Unit) (((none, 0, 0), (1, ())), ()) H fun s1 H2 next3 => cnd (decide ((s1.1.2.1 : Int) ≤ 200)) (HCalls Tryz.prog 88 [.pointer (some ⟨ph_b, ph_o, none⟩), .int .i64
    s1.1.2.1] H2 fun v4 H5 => ∃ (A6 : Option Addr) (n6 c6 : Nat), v4 = .slice A6 n6 c6 ∧ LoopF (σ := ((Option Addr × Nat × Nat) × (Int × Unit)) × Unit) (((s1.1.1.1, s1.1.1.2.1, s1.1.1.2.2), (1, ())), ()) H5 fun s7 H8
    next9 => cnd (decide ((s7.1.2.1 : Int) < ((n6 : Nat) : Int))) (0 ≤ (IntKind.i64.wrap (s7.1.2.1 - 1) : Int) ∧ (IntKind.i64.wrap (s7.1.2.1 - 1) : Int) < ((n6 : Nat) : Int) ∧ onPtr A6 fun b10 o10 => ∃ x11 : Int, cl H8
    b10 (o10 + (IntKind.i64.wrap (s7.1.2.1 - 1) : Int).toNat * 1) = some (.int .i64 x11) ∧ 0 ≤ (s7.1.2.1 : Int) ∧ (s7.1.2.1 : Int) < ((n6 : Nat) : Int) ∧ onPtr A6 fun b12 o12 => ∃ x13 : Int, cl H8 b12 (o12 + (s7.1.2.1 :
    Int).toNat * 1) = some (.int .i64 x13) ∧ HCalls Tryz.prog 89 [.slice s7.1.1.1 s7.1.1.2.1 s7.1.1.2.2, .agg #[.int .i64 x11, .int .i64 x13, .int .i64 1, .int .i64 s1.1.2.1]] H8 fun v14 H15 => ∃ (A16 : Option Addr) (n16
    c16 : Nat), v14 = .slice A16 n16 c16 ∧ KeepX [some (.v (.pointer (some ⟨ph_b, ph_o, none⟩))), some (.v (.int .i64 s1.1.2.1)), some (.v (.slice A6 n6 c6))] [] ∧ next9 (((A16, n16, c16), (IntKind.i64.wrap (s7.1.2.1 +
    1), ())), ()) H15) (∃ (A17 : Option Addr) (n17 c17 : Nat), cl H8 ph_b (ph_o + 0) = some (.slice A17 n17 c17) ∧ LoopF (σ := ((Option Addr × Nat × Nat) × (Int × Unit)) × Unit) (((s7.1.1.1, s7.1.1.2.1, s7.1.1.2.2), (0,
    ())), ()) H8 fun s18 H19 next20 => cnd (decide ((s18.1.2.1 : Int) < ((n17 : Nat) : Int))) (jn (fun (jA64 : Option Addr) (jn65 : Nat) (jc66 : Nat) (H67 : Hp) => KeepX [some (.v (.pointer (some ⟨ph_b, ph_o, none⟩))),
    some (.v (.int .i64 s1.1.2.1)), some (.v (.slice A6 n6 c6)), some (.v (.slice A17 n17 c17)), some (.v (.int .i64 ((n17 : Nat) : Int)))] [] ∧ next20 (((jA64, jn65, jc66), (IntKind.i64.wrap (s18.1.2.1 + 1), ())), ())
    H67) fun J68 => 0 ≤ (s18.1.2.1 : Int) ∧ (s18.1.2.1 : Int) < ((n17 : Nat) : Int) ∧ onPtr A17 fun b21 o21 => ∃ x22 : Int, cl H19 b21 (o21 + (s18.1.2.1 : Int).toNat * 5) = some (.int .i64 x22) ∧ ∃ x23 : Int, cl H19 b21
    ((o21 + (s18.1.2.1 : Int).toNat * 5) + 1) = some (.int .i64 x23) ∧ ∃ x24 : Int, cl H19 b21 (((o21 + (s18.1.2.1 : Int).toNat * 5) + 1) + 1) = some (.int .i64 x24) ∧ ∃ x25 : Int, cl H19 b21 ((((o21 + (s18.1.2.1 :
    Int).toNat * 5) + 1) + 1) + 1) = some (.int .i64 x25) ∧ ∃ x26 : Int, cl H19 b21 (((((o21 + (s18.1.2.1 : Int).toNat * 5) + 1) + 1) + 1) + 1) = some (.int .i64 x26) ∧ jn (fun (j30 : Bool) => cnd j30 (J68 s18.1.1.1
    s18.1.1.2.1 s18.1.1.2.2 H19) (jn (fun (jA44 : Option Addr) (jn45 : Nat) (jc46 : Nat) (H47 : Hp) => LoopF (σ := ((Option Addr × Nat × Nat) × (Int × Unit)) × Unit) (((jA44, jn45, jc46), (1, ())), ()) H47 fun s49 H50
    next51 => cnd (decide ((s49.1.2.1 : Int) < ((n6 : Nat) : Int))) (jn (fun (jA59 : Option Addr) (jn60 : Nat) (jc61 : Nat) (H62 : Hp) => KeepX [some (.v (.pointer (some ⟨ph_b, ph_o, none⟩))), some (.v (.int .i64
    s1.1.2.1)), some (.v (.slice A6 n6 c6)), some (.loc 8 0), some (.v (.slice A17 n17 c17)), some (.v (.int .i64 ((n17 : Nat) : Int))), some (.v (.int .i64 s18.1.2.1))] [some (true, [.int .i64 x22, .int .i64 x23, .int
    .i64 x24, .int .i64 x25, .int .i64 x26])] ∧ next51 (((jA59, jn60, jc61), (IntKind.i64.wrap (s49.1.2.1 + 1), ())), ()) H62) fun J63 => 0 ≤ (IntKind.i64.wrap (s49.1.2.1 - 1) : Int) ∧ (IntKind.i64.wrap (s49.1.2.1 - 1) :
    Int) < ((n6 : Nat) : Int) ∧ onPtr A6 fun b52 o52 => ∃ x53 : Int, cl H50 b52 (o52 + (IntKind.i64.wrap (s49.1.2.1 - 1) : Int).toNat * 1) = some (.int .i64 x53) ∧ cnd ((x53 : Int) == x25) (0 ≤ (s49.1.2.1 : Int) ∧
    (s49.1.2.1 : Int) < ((n6 : Nat) : Int) ∧ onPtr A6 fun b54 o54 => ∃ x55 : Int, cl H50 b54 (o54 + (s49.1.2.1 : Int).toNat * 1) = some (.int .i64 x55) ∧ HCalls Tryz.prog 89 [.slice s49.1.1.1 s49.1.1.2.1 s49.1.1.2.2, .agg
    #[.int .i64 x23, .int .i64 x55, .int .i64 3, .int .i64 s1.1.2.1]] H50 fun v56 H57 => ∃ (A58 : Option Addr) (n58 c58 : Nat), v56 = .slice A58 n58 c58 ∧ J63 A58 n58 c58 H57) (J63 s49.1.1.1 s49.1.1.2.1 s49.1.1.2.2 H50))
    (J68 s49.1.1.1 s49.1.1.2.1 s49.1.1.2.2 H50)) fun J48 => jn (fun (j38 : Bool) (H39 : Hp) => cnd j38 (HCalls Tryz.prog 89 [.slice s18.1.1.1 s18.1.1.2.1 s18.1.1.2.2, .agg #[.int .i64 x25, .int .i64 x23, .int .i64 2, .int
    .i64 s1.1.2.1]] H39 fun v41 H42 => ∃ (A43 : Option Addr) (n43 c43 : Nat), v41 = .slice A43 n43 c43 ∧ J48 A43 n43 c43 H42) (J48 s18.1.1.1 s18.1.1.2.1 s18.1.1.2.2 H39)) fun J40 => cnd ((x25 : Int) != 0) (∃ (A32 : Option
    Addr) (n32 c32 : Nat), cl H19 ph_b (ph_o + 1) = some (.slice A32 n32 c32) ∧ 0 ≤ (x25 : Int) ∧ (x25 : Int) < ((n32 : Nat) : Int) ∧ onPtr A32 fun b33 o33 => ∃ x34 : Int, cl H19 b33 (o33 + (x25 : Int).toNat * 1) = some
    (.int .i64 x34) ∧ cnd (decide ((x34 : Int) ≥ 0)) (HCalls Tryz.prog 90 [.pointer (some ⟨ph_b, ph_o, none⟩), .int .i64 x25, .int .i64 s1.1.2.1, .int .i64 s18.1.2.1] H19 fun v35 H36 => ∃ x37 : Bool, v35 = .bool x37 ∧ J40
    (!x37) H36) (J40 false H19)) (J40 false H19))) fun J31 => cnd ((x22 : Int) != 2) (J31 true) (cnd ((x24 : Int) != s1.1.2.1) (J31 true) (∃ (A27 : Option Addr) (n27 c27 : Nat), cl H19 ph_b (ph_o + 1) = some (.slice A27
    n27 c27) ∧ 0 ≤ (x23 : Int) ∧ (x23 : Int) < ((n27 : Nat) : Int) ∧ onPtr A27 fun b28 o28 => ∃ x29 : Int, cl H19 b28 (o28 + (x23 : Int).toNat * 1) = some (.int .i64 x29) ∧ J31 (decide ((x29 : Int) < 0))))) (KeepX [some
    (.v (.pointer (some ⟨ph_b, ph_o, none⟩)))] [] ∧ next3 (((s18.1.1.1, s18.1.1.2.1, s18.1.1.2.2), (IntKind.i64.wrap (s1.1.2.1 + 1), ())), ()) H19))) (Q (.slice s1.1.1.1 s1.1.1.2.1 s1.1.1.2.2) H2)
noncomputable def fcx55 : Cx := cx 123 [(8, true)] [(3, ⟨[0], [], [(3, .slice), (4, .int .i64)], []⟩), (7, ⟨[0, 4, 5], [], [(3, .slice), (6, .int .i64)], []⟩), (11, ⟨[0, 4, 5, 39, 40], [], [(3, .slice), (41, .int .i64)], []⟩), (17, ⟨[0, 4, 5, 8, 39, 40, 41], [8], [(3, .slice), (9, .int .i64)], []⟩)] [(9, (.look 0 (.look 1 (.look 2 (.look 3 (.look 4 (.look 5 (.look 6 (.look 7 (.look 8 (.look 9 (.look 10 (.look 11 (.act 12 (.act 13 .done .done) .done)))))))))))))), (13, (.look 0 (.look 1 (.look 2 (.look 3 (.look 4 (.look 5 (.look 6 (.look 7 (.look 8 (.look 9 (.look 10 (.look 11 (.look 12 (.look 13 (.look 14 (.look 15 (.look 16 (.look 17 (.look 18 (.look 19 .done))))))))))))))))))))), (14, (.look 0 (.look 1 (.look 2 (.look 3 (.look 4 (.look 5 (.look 6 (.look 7 (.look 8 (.look 9 (.look 10 (.look 11 (.look 12 (.look 13 (.look 14 (.look 15 (.look 16 (.look 17 (.look 18 (.look 19 (.act 20 (.look 21 (.look 22 .done)) .done)))))))))))))))))))))), (19, (.look 0 (.look 1 (.look 2 (.look 3 (.look 4 (.look 5 (.look 6 (.look 7 .done))))))))), (20, (.look 0 (.look 1 (.look 2 (.look 3 (.look 4 (.look 5 (.look 6 (.look 7 (.look 8 (.act 9 (.act 10 .done .done) .done)))))))))))] []
theorem f55.eq (ph_b ph_o : Nat) (H : Hp) (Q : Value → Hp → Prop) : f55 ph_b ph_o H Q = wFun fcx55 Tryz.f55 [.pointer (some ⟨ph_b, ph_o, none⟩)] H Q := by kernel_rfl
theorem f55.ok (ph_b ph_o : Nat) {H : Hp} {Q : Value → Hp → Prop} (h : f55 ph_b ph_o H Q) : HCalls Tryz.prog 55 [.pointer (some ⟨ph_b, ph_o, none⟩)] H Q := hcalls_of (cxOk 123 [(8, true)] [(3, ⟨[0], [], [(3, .slice), (4, .int .i64)], []⟩), (7, ⟨[0, 4, 5], [], [(3, .slice), (6, .int .i64)], []⟩), (11, ⟨[0, 4, 5, 39, 40], [], [(3, .slice), (41, .int .i64)], []⟩), (17, ⟨[0, 4, 5, 8, 39, 40, 41], [8], [(3, .slice), (9, .int .i64)], []⟩)] [(9, (.look 0 (.look 1 (.look 2 (.look 3 (.look 4 (.look 5 (.look 6 (.look 7 (.look 8 (.look 9 (.look 10 (.look 11 (.act 12 (.act 13 .done .done) .done)))))))))))))), (13, (.look 0 (.look 1 (.look 2 (.look 3 (.look 4 (.look 5 (.look 6 (.look 7 (.look 8 (.look 9 (.look 10 (.look 11 (.look 12 (.look 13 (.look 14 (.look 15 (.look 16 (.look 17 (.look 18 (.look 19 .done))))))))))))))))))))), (14, (.look 0 (.look 1 (.look 2 (.look 3 (.look 4 (.look 5 (.look 6 (.look 7 (.look 8 (.look 9 (.look 10 (.look 11 (.look 12 (.look 13 (.look 14 (.look 15 (.look 16 (.look 17 (.look 18 (.look 19 (.act 20 (.look 21 (.look 22 .done)) .done)))))))))))))))))))))), (19, (.look 0 (.look 1 (.look 2 (.look 3 (.look 4 (.look 5 (.look 6 (.look 7 .done))))))))), (20, (.look 0 (.look 1 (.look 2 (.look 3 (.look 4 (.look 5 (.look 6 (.look 7 (.look 8 (.act 9 (.act 10 .done .done) .done)))))))))))] []) Tryz.func55 (Eq.mp (f55.eq ph_b ph_o H Q) h)

/-- (*justiciar justiciarref29.history).dirty -/
def f58 (ph_b ph_o : Nat) (H : Hp) (Q : Value → Hp → Prop) : Prop :=
  ∃ (A1 : Option Addr) (n1 c1 : Nat), cl H ph_b (ph_o + 0) = some (.slice A1 n1 c1) ∧ LoopF (σ := (Int × Unit) × Unit) ((0, ()), ()) H fun s2 H3 next4 => cnd (decide ((s2.1.1 : Int) < ((n1 : Nat) : Int))) (0 ≤ (s2.1.1 :
    Int) ∧ (s2.1.1 : Int) < ((n1 : Nat) : Int) ∧ onPtr A1 fun b5 o5 => ∃ x6 : Int, cl H3 b5 (o5 + (s2.1.1 : Int).toNat * 5) = some (.int .i64 x6) ∧ ∃ x7 : Int, cl H3 b5 ((o5 + (s2.1.1 : Int).toNat * 5) + 1) = some (.int
    .i64 x7) ∧ ∃ x8 : Int, cl H3 b5 (((o5 + (s2.1.1 : Int).toNat * 5) + 1) + 1) = some (.int .i64 x8) ∧ ∃ x9 : Int, cl H3 b5 ((((o5 + (s2.1.1 : Int).toNat * 5) + 1) + 1) + 1) = some (.int .i64 x9) ∧ ∃ x10 : Int, cl H3 b5
    (((((o5 + (s2.1.1 : Int).toNat * 5) + 1) + 1) + 1) + 1) = some (.int .i64 x10) ∧ jn (fun (j17 : Bool) => cnd j17 (Q (.bool true) H3) (KeepX [some (.v (.pointer (some ⟨ph_b, ph_o, none⟩))), some (.v (.slice A1 n1 c1)),
    some (.v (.int .i64 ((n1 : Nat) : Int)))] [] ∧ next4 ((IntKind.i64.wrap (s2.1.1 + 1), ()), ()) H3)) fun J18 => cnd ((x6 : Int) == 2) (∃ (A11 : Option Addr) (n11 c11 : Nat), cl H3 ph_b (ph_o + 1) = some (.slice A11 n11
    c11) ∧ 0 ≤ (x7 : Int) ∧ (x7 : Int) < ((n11 : Nat) : Int) ∧ onPtr A11 fun b12 o12 => ∃ x13 : Int, cl H3 b12 (o12 + (x7 : Int).toNat * 1) = some (.int .i64 x13) ∧ cnd (decide ((x13 : Int) ≥ 0)) (cnd ((x9 : Int) != 0)
    (cnd ((x9 : Int) != x7) (∃ (A14 : Option Addr) (n14 c14 : Nat), cl H3 ph_b (ph_o + 1) = some (.slice A14 n14 c14) ∧ 0 ≤ (x9 : Int) ∧ (x9 : Int) < ((n14 : Nat) : Int) ∧ onPtr A14 fun b15 o15 => ∃ x16 : Int, cl H3 b15
    (o15 + (x9 : Int).toNat * 1) = some (.int .i64 x16) ∧ J18 (decide ((x16 : Int) < 0))) (J18 false)) (J18 false)) (J18 false)) (J18 false)) (Q (.bool false) H3)
noncomputable def fcx58 : Cx := cx 52 [(4, true)] [(2, ⟨[0, 8, 9], [], [(10, .int .i64)], []⟩)] [(4, (.look 0 (.look 1 (.look 2 (.look 3 (.look 4 (.look 5 (.look 6 (.look 7 (.look 8 (.look 9 (.look 10 (.look 11 (.look 12 (.look 13 (.look 14 (.look 15 (.look 16 (.look 17 (.look 18 (.look 19 (.look 20 (.look 21 (.look 22 (.look 23 (.look 24 (.look 25 (.look 26 (.look 27 (.look 28 (.look 29 (.look 30 (.look 31 (.look 32 (.look 33 (.look 34 (.look 35 (.look 36 .done))))))))))))))))))))))))))))))))))))))] []
theorem f58.eq (ph_b ph_o : Nat) (H : Hp) (Q : Value → Hp → Prop) : f58 ph_b ph_o H Q = wFun fcx58 Tryz.f58 [.pointer (some ⟨ph_b, ph_o, none⟩)] H Q := by kernel_rfl
theorem f58.ok (ph_b ph_o : Nat) {H : Hp} {Q : Value → Hp → Prop} (h : f58 ph_b ph_o H Q) : HCalls Tryz.prog 58 [.pointer (some ⟨ph_b, ph_o, none⟩)] H Q := hcalls_of (cxOk 52 [(4, true)] [(2, ⟨[0, 8, 9], [], [(10, .int .i64)], []⟩)] [(4, (.look 0 (.look 1 (.look 2 (.look 3 (.look 4 (.look 5 (.look 6 (.look 7 (.look 8 (.look 9 (.look 10 (.look 11 (.look 12 (.look 13 (.look 14 (.look 15 (.look 16 (.look 17 (.look 18 (.look 19 (.look 20 (.look 21 (.look 22 (.look 23 (.look 24 (.look 25 (.look 26 (.look 27 (.look 28 (.look 29 (.look 30 (.look 31 (.look 32 (.look 33 (.look 34 (.look 35 (.look 36 .done))))))))))))))))))))))))))))))))))))))] []) Tryz.func58 (Eq.mp (f58.eq ph_b ph_o H Q) h)

/-- (*justiciar justiciarref29.history).between -/
def f59 (ph_b ph_o : Nat) (H : Hp) (Q : Value → Hp → Prop) : Prop :=
  ∃ (A1 : Option Addr) (n1 c1 : Nat), cl H ph_b (ph_o + 0) = some (.slice A1 n1 c1) ∧ LoopF (σ := (Int × Unit) × Unit) ((0, ()), ()) H fun s2 H3 next4 => cnd (decide ((s2.1.1 : Int) < ((n1 : Nat) : Int))) (0 ≤ (s2.1.1 :
    Int) ∧ (s2.1.1 : Int) < ((n1 : Nat) : Int) ∧ onPtr A1 fun b5 o5 => ∃ x6 : Int, cl H3 b5 (o5 + (s2.1.1 : Int).toNat * 5) = some (.int .i64 x6) ∧ ∃ x7 : Int, cl H3 b5 ((o5 + (s2.1.1 : Int).toNat * 5) + 1) = some (.int
    .i64 x7) ∧ ∃ x8 : Int, cl H3 b5 (((o5 + (s2.1.1 : Int).toNat * 5) + 1) + 1) = some (.int .i64 x8) ∧ ∃ x9 : Int, cl H3 b5 ((((o5 + (s2.1.1 : Int).toNat * 5) + 1) + 1) + 1) = some (.int .i64 x9) ∧ ∃ x10 : Int, cl H3 b5
    (((((o5 + (s2.1.1 : Int).toNat * 5) + 1) + 1) + 1) + 1) = some (.int .i64 x10) ∧ jn (fun (j17 : Bool) (H18 : Hp) => cnd j17 (Q (.bool true) H18) (KeepX [some (.v (.pointer (some ⟨ph_b, ph_o, none⟩))), some (.v (.slice
    A1 n1 c1)), some (.v (.int .i64 ((n1 : Nat) : Int)))] [] ∧ next4 ((IntKind.i64.wrap (s2.1.1 + 1), ()), ()) H18)) fun J19 => cnd ((x6 : Int) == 2) (∃ (A11 : Option Addr) (n11 c11 : Nat), cl H3 ph_b (ph_o + 1) = some
    (.slice A11 n11 c11) ∧ 0 ≤ (x7 : Int) ∧ (x7 : Int) < ((n11 : Nat) : Int) ∧ onPtr A11 fun b12 o12 => ∃ x13 : Int, cl H3 b12 (o12 + (x7 : Int).toNat * 1) = some (.int .i64 x13) ∧ cnd (decide ((x13 : Int) ≥ 0)) (cnd ((x9
    : Int) != 0) (cnd ((x9 : Int) != x7) (HCalls Tryz.prog 90 [.pointer (some ⟨ph_b, ph_o, none⟩), .int .i64 x9, .int .i64 x8, .int .i64 s2.1.1] H3 fun v14 H15 => ∃ x16 : Bool, v14 = .bool x16 ∧ J19 x16 H15) (J19 false
    H3)) (J19 false H3)) (J19 false H3)) (J19 false H3)) (Q (.bool false) H3)
noncomputable def fcx59 : Cx := cx 51 [(4, true)] [(2, ⟨[0, 8, 9], [], [(10, .int .i64)], []⟩)] [(4, (.look 0 (.look 1 (.look 2 (.look 3 (.look 4 (.look 5 (.look 6 (.look 7 (.look 8 (.look 9 (.look 10 (.look 11 (.look 12 (.look 13 (.look 14 (.look 15 (.look 16 (.look 17 (.look 18 (.look 19 (.look 20 (.look 21 (.look 22 (.look 23 (.look 24 (.look 25 (.look 26 (.look 27 (.look 28 (.look 29 (.look 30 (.look 31 (.look 32 (.act 33 (.look 34 .done) .done)))))))))))))))))))))))))))))))))))] []
theorem f59.eq (ph_b ph_o : Nat) (H : Hp) (Q : Value → Hp → Prop) : f59 ph_b ph_o H Q = wFun fcx59 Tryz.f59 [.pointer (some ⟨ph_b, ph_o, none⟩)] H Q := by kernel_rfl
theorem f59.ok (ph_b ph_o : Nat) {H : Hp} {Q : Value → Hp → Prop} (h : f59 ph_b ph_o H Q) : HCalls Tryz.prog 59 [.pointer (some ⟨ph_b, ph_o, none⟩)] H Q := hcalls_of (cxOk 51 [(4, true)] [(2, ⟨[0, 8, 9], [], [(10, .int .i64)], []⟩)] [(4, (.look 0 (.look 1 (.look 2 (.look 3 (.look 4 (.look 5 (.look 6 (.look 7 (.look 8 (.look 9 (.look 10 (.look 11 (.look 12 (.look 13 (.look 14 (.look 15 (.look 16 (.look 17 (.look 18 (.look 19 (.look 20 (.look 21 (.look 22 (.look 23 (.look 24 (.look 25 (.look 26 (.look 27 (.look 28 (.look 29 (.look 30 (.look 31 (.look 32 (.act 33 (.look 34 .done) .done)))))))))))))))))))))))))))))))))))] []) Tryz.func59 (Eq.mp (f59.eq ph_b ph_o H Q) h)

/-- (*justiciar justiciarref29.history).done -/
def f65 (ph_b ph_o : Nat) (H : Hp) (Q : Value → Hp → Prop) : Prop :=
  ∃ (A1 : Option Addr) (n1 c1 : Nat), cl H ph_b (ph_o + 1) = some (.slice A1 n1 c1) ∧ LoopF (σ := ((Option Addr × Nat × Nat) × (Int × Unit)) × Unit) (((none, 0, 0), (0, ())), ()) H fun s2 H3 next4 => cnd (decide ((s2.1.2.1
    : Int) < ((n1 : Nat) : Int))) (jn (fun (jA11 : Option Addr) (jn12 : Nat) (jc13 : Nat) (H14 : Hp) => KeepX [some (.v (.slice A1 n1 c1)), some (.v (.int .i64 ((n1 : Nat) : Int)))] [] ∧ next4 (((jA11, jn12, jc13),
    (IntKind.i64.wrap (s2.1.2.1 + 1), ())), ()) H14) fun J15 => 0 ≤ (s2.1.2.1 : Int) ∧ (s2.1.2.1 : Int) < ((n1 : Nat) : Int) ∧ onPtr A1 fun b5 o5 => ∃ x6 : Int, cl H3 b5 (o5 + (s2.1.2.1 : Int).toNat * 1) = some (.int .i64
    x6) ∧ cnd (decide ((x6 : Int) ≥ 0)) (newF H3 3 [.int .i64 s2.1.2.1] fun g7 H8 => appendF H8 3 1 8 s2.1.1.1 s2.1.1.2.1 s2.1.1.2.2 (some ⟨g7, 0, none⟩) 1 fun A9 n9 c9 H10 => J15 A9 n9 c9 H10) (J15 s2.1.1.1 s2.1.1.2.1
    s2.1.1.2.2 H3)) (Q (.slice s2.1.1.1 s2.1.1.2.1 s2.1.1.2.2) H3)
noncomputable def fcx65 : Cx := cx 24 [] [(3, ⟨[9, 10], [], [(3, .slice), (11, .int .i64)], []⟩)] [] []
theorem f65.eq (ph_b ph_o : Nat) (H : Hp) (Q : Value → Hp → Prop) : f65 ph_b ph_o H Q = wFun fcx65 Tryz.f65 [.pointer (some ⟨ph_b, ph_o, none⟩)] H Q := by kernel_rfl
theorem f65.ok (ph_b ph_o : Nat) {H : Hp} {Q : Value → Hp → Prop} (h : f65 ph_b ph_o H Q) : HCalls Tryz.prog 65 [.pointer (some ⟨ph_b, ph_o, none⟩)] H Q := hcalls_of (cxOk 24 [] [(3, ⟨[9, 10], [], [(3, .slice), (11, .int .i64)], []⟩)] [] []) Tryz.func65 (Eq.mp (f65.eq ph_b ph_o H Q) h)

/-- (*justiciar justiciarref29.history).versions -/
def f88 (ph_b ph_o : Nat) (pitem : Int) (H : Hp) (Q : Value → Hp → Prop) : Prop :=
  newF H 3 [.int .i64 0] fun g1 H2 => ∃ (A3 : Option Addr) (n3 c3 : Nat), cl H2 ph_b (ph_o + 0) = some (.slice A3 n3 c3) ∧ LoopF (σ := ((Option Addr × Nat × Nat) × (Int × Unit)) × Unit) ((((some ⟨g1, 0, none⟩), 1, 1), (0,
    ())), ()) H2 fun s4 H5 next6 => cnd (decide ((s4.1.2.1 : Int) < ((n3 : Nat) : Int))) (jn (fun (jA23 : Option Addr) (jn24 : Nat) (jc25 : Nat) (H26 : Hp) => KeepX [some (.v (.pointer (some ⟨ph_b, ph_o, none⟩))), some
    (.v (.int .i64 pitem)), some (.v (.slice A3 n3 c3)), some (.v (.int .i64 ((n3 : Nat) : Int)))] [] ∧ next6 (((jA23, jn24, jc25), (IntKind.i64.wrap (s4.1.2.1 + 1), ())), ()) H26) fun J27 => 0 ≤ (s4.1.2.1 : Int) ∧
    (s4.1.2.1 : Int) < ((n3 : Nat) : Int) ∧ onPtr A3 fun b7 o7 => ∃ x8 : Int, cl H5 b7 (o7 + (s4.1.2.1 : Int).toNat * 5) = some (.int .i64 x8) ∧ ∃ x9 : Int, cl H5 b7 ((o7 + (s4.1.2.1 : Int).toNat * 5) + 1) = some (.int
    .i64 x9) ∧ ∃ x10 : Int, cl H5 b7 (((o7 + (s4.1.2.1 : Int).toNat * 5) + 1) + 1) = some (.int .i64 x10) ∧ ∃ x11 : Int, cl H5 b7 ((((o7 + (s4.1.2.1 : Int).toNat * 5) + 1) + 1) + 1) = some (.int .i64 x11) ∧ ∃ x12 : Int,
    cl H5 b7 (((((o7 + (s4.1.2.1 : Int).toNat * 5) + 1) + 1) + 1) + 1) = some (.int .i64 x12) ∧ jn (fun (j16 : Bool) (H17 : Hp) => cnd j16 (newF H17 3 [.int .i64 x9] fun g19 H20 => appendF H20 3 1 8 s4.1.1.1 s4.1.1.2.1
    s4.1.1.2.2 (some ⟨g19, 0, none⟩) 1 fun A21 n21 c21 H22 => J27 A21 n21 c21 H22) (J27 s4.1.1.1 s4.1.1.2.1 s4.1.1.2.2 H17)) fun J18 => cnd ((x8 : Int) == 4) (HCalls Tryz.prog 90 [.pointer (some ⟨ph_b, ph_o, none⟩), .int
    .i64 x9, .int .i64 pitem, .int .i64 0] H5 fun v13 H14 => ∃ x15 : Bool, v13 = .bool x15 ∧ J18 x15 H14) (J18 false H5)) (Q (.slice s4.1.1.1 s4.1.1.2.1 s4.1.1.2.2) H5)
noncomputable def fcx88 : Cx := cx 35 [(7, true)] [(3, ⟨[0, 1, 12, 13], [], [(5, .slice), (14, .int .i64)], []⟩)] [] []
theorem f88.eq (ph_b ph_o : Nat) (pitem : Int) (H : Hp) (Q : Value → Hp → Prop) : f88 ph_b ph_o pitem H Q = wFun fcx88 Tryz.f88 [.pointer (some ⟨ph_b, ph_o, none⟩), .int .i64 pitem] H Q := by kernel_rfl
theorem f88.ok (ph_b ph_o : Nat) (pitem : Int) {H : Hp} {Q : Value → Hp → Prop} (h : f88 ph_b ph_o pitem H Q) : HCalls Tryz.prog 88 [.pointer (some ⟨ph_b, ph_o, none⟩), .int .i64 pitem] H Q := hcalls_of (cxOk 35 [(7, true)] [(3, ⟨[0, 1, 12, 13], [], [(5, .slice), (14, .int .i64)], []⟩)] [] []) Tryz.func88 (Eq.mp (f88.eq ph_b ph_o pitem H Q) h)

/-- justiciar justiciarref29.add -/
def f89 (pl_A : Option Addr) (pl_n pl_c : Nat) (pa_0 : Int) (pa_1 : Int) (pa_2 : Int) (pa_3 : Int) (H : Hp) (Q : Value → Hp → Prop) : Prop :=
  jn (fun (j1 : Bool) => cnd j1 (Q (.slice pl_A pl_n pl_c) H) (LoopF (σ := (Int × Unit) × Unit) ((((pl_n : Nat) : Int), ()), ()) H fun s3 H4 next5 => jn (fun (j14 : Bool) (H15 : Hp) => cnd j14 (KeepX [some (.v (.slice pl_A
    pl_n pl_c)), some (.loc 3 0)] [some (true, [.int .i64 pa_0, .int .i64 pa_1, .int .i64 pa_2, .int .i64 pa_3])] ∧ next5 ((IntKind.i64.wrap (s3.1.1 - 1), ()), ()) H15) (jn (fun (j22 : Bool) => cnd j22 (Q (.slice pl_A
    pl_n pl_c) H15) (0 ≤ (s3.1.1 : Int) ∧ (s3.1.1 : Int) ≤ ((pl_c : Nat) : Int) ∧ 0 ≤ (s3.1.1 : Int) ∧ (s3.1.1 : Int) ≤ (s3.1.1 : Int) ∧ 0 ≤ (s3.1.1 : Int) ∧ (s3.1.1 : Int) ≤ ((pl_n : Nat) : Int) ∧ newF H15 52 [.int .i64
    pa_0, .int .i64 pa_1, .int .i64 pa_2, .int .i64 pa_3] fun g24 H25 => appendF H25 52 4 32 (some ⟨g24, 0, none⟩) 1 1 (cutA pl_A (((s3.1.1 : Int).toNat) * 4) (decide (pl_c = ((s3.1.1 : Int).toNat)))) (pl_n - ((s3.1.1 :
    Int).toNat)) fun A26 n26 c26 H27 => appendF H27 52 4 32 (cutA pl_A (0 * 4) (decide (((s3.1.1 : Int).toNat) = 0))) (((s3.1.1 : Int).toNat) - 0) (((s3.1.1 : Int).toNat) - 0) A26 n26 fun A28 n28 c28 H29 => Q (.slice A28
    n28 c28) H29)) fun J23 => cnd (decide ((s3.1.1 : Int) < ((pl_n : Nat) : Int))) (0 ≤ (s3.1.1 : Int) ∧ (s3.1.1 : Int) < ((pl_n : Nat) : Int) ∧ onPtr pl_A fun b17 o17 => ∃ x18 : Int, cl H15 b17 (o17 + (s3.1.1 :
    Int).toNat * 4) = some (.int .i64 x18) ∧ ∃ x19 : Int, cl H15 b17 ((o17 + (s3.1.1 : Int).toNat * 4) + 1) = some (.int .i64 x19) ∧ ∃ x20 : Int, cl H15 b17 (((o17 + (s3.1.1 : Int).toNat * 4) + 1) + 1) = some (.int .i64
    x20) ∧ ∃ x21 : Int, cl H15 b17 ((((o17 + (s3.1.1 : Int).toNat * 4) + 1) + 1) + 1) = some (.int .i64 x21) ∧ J23 (((x18 : Int) == pa_0) && (((x19 : Int) == pa_1) && (((x20 : Int) == pa_2) && (((x21 : Int) == pa_3) &&
    true))))) (J23 false))) fun J16 => cnd (decide ((s3.1.1 : Int) > 0)) (0 ≤ (IntKind.i64.wrap (s3.1.1 - 1) : Int) ∧ (IntKind.i64.wrap (s3.1.1 - 1) : Int) < ((pl_n : Nat) : Int) ∧ onPtr pl_A fun b6 o6 => ∃ x7 : Int, cl
    H4 b6 (o6 + (IntKind.i64.wrap (s3.1.1 - 1) : Int).toNat * 4) = some (.int .i64 x7) ∧ ∃ x8 : Int, cl H4 b6 ((o6 + (IntKind.i64.wrap (s3.1.1 - 1) : Int).toNat * 4) + 1) = some (.int .i64 x8) ∧ ∃ x9 : Int, cl H4 b6 (((o6
    + (IntKind.i64.wrap (s3.1.1 - 1) : Int).toNat * 4) + 1) + 1) = some (.int .i64 x9) ∧ ∃ x10 : Int, cl H4 b6 ((((o6 + (IntKind.i64.wrap (s3.1.1 - 1) : Int).toNat * 4) + 1) + 1) + 1) = some (.int .i64 x10) ∧ HCalls
    Tryz.prog 106 [.agg #[.int .i64 x7, .int .i64 x8, .int .i64 x9, .int .i64 x10], .agg #[.int .i64 pa_0, .int .i64 pa_1, .int .i64 pa_2, .int .i64 pa_3]] H4 fun v11 H12 => ∃ x13 : Bool, v11 = .bool x13 ∧ J16 (!x13) H12)
    (J16 false H4))) fun J2 => cnd ((pa_0 : Int) == pa_1) (J2 true) (cnd ((pa_0 : Int) == 0) (J2 true) (J2 ((pa_1 : Int) == 0)))
noncomputable def fcx89 : Cx := cx 62 [(3, true)] [(4, ⟨[0, 3], [3], [(5, .int .i64)], []⟩)] [(4, (.look 0 (.look 1 (.look 2 (.look 3 (.look 4 (.look 5 (.look 6 (.look 7 (.look 8 (.act 9 (.look 10 (.look 11 .done)) .done))))))))))), (6, (.look 0 (.look 1 (.look 2 (.look 3 (.look 4 (.look 5 (.look 6 (.look 7 (.look 8 (.look 9 (.look 10 (.look 11 .done))))))))))))), (8, (.look 0 (.look 1 (.look 2 (.look 3 (.look 4 (.look 6 (.look 7 (.look 8 (.act 5 (.act 9 (.act 10 (.act 11 .done .done) .done) .done) .done))))))))))] []
theorem f89.eq (pl_A : Option Addr) (pl_n pl_c : Nat) (pa_0 : Int) (pa_1 : Int) (pa_2 : Int) (pa_3 : Int) (H : Hp) (Q : Value → Hp → Prop) : f89 pl_A pl_n pl_c pa_0 pa_1 pa_2 pa_3 H Q = wFun fcx89 Tryz.f89 [.slice pl_A pl_n pl_c, .agg #[.int .i64 pa_0, .int .i64 pa_1, .int .i64 pa_2, .int .i64 pa_3]] H Q := by kernel_rfl
theorem f89.ok (pl_A : Option Addr) (pl_n pl_c : Nat) (pa_0 : Int) (pa_1 : Int) (pa_2 : Int) (pa_3 : Int) {H : Hp} {Q : Value → Hp → Prop} (h : f89 pl_A pl_n pl_c pa_0 pa_1 pa_2 pa_3 H Q) : HCalls Tryz.prog 89 [.slice pl_A pl_n pl_c, .agg #[.int .i64 pa_0, .int .i64 pa_1, .int .i64 pa_2, .int .i64 pa_3]] H Q := hcalls_of (cxOk 62 [(3, true)] [(4, ⟨[0, 3], [3], [(5, .int .i64)], []⟩)] [(4, (.look 0 (.look 1 (.look 2 (.look 3 (.look 4 (.look 5 (.look 6 (.look 7 (.look 8 (.act 9 (.look 10 (.look 11 .done)) .done))))))))))), (6, (.look 0 (.look 1 (.look 2 (.look 3 (.look 4 (.look 5 (.look 6 (.look 7 (.look 8 (.look 9 (.look 10 (.look 11 .done))))))))))))), (8, (.look 0 (.look 1 (.look 2 (.look 3 (.look 4 (.look 6 (.look 7 (.look 8 (.act 5 (.act 9 (.act 10 (.act 11 .done .done) .done) .done) .done))))))))))] []) Tryz.func89 (Eq.mp (f89.eq pl_A pl_n pl_c pa_0 pa_1 pa_2 pa_3 H Q) h)

/-- (*justiciar justiciarref29.history).wrote -/
def f90 (ph_b ph_o : Nat) (ptxn : Int) (pitem : Int) (pfrm : Int) (H : Hp) (Q : Value → Hp → Prop) : Prop :=
  ∃ (A1 : Option Addr) (n1 c1 : Nat), cl H ph_b (ph_o + 0) = some (.slice A1 n1 c1) ∧ 0 ≤ (pfrm : Int) ∧ (pfrm : Int) ≤ ((n1 : Nat) : Int) ∧ LoopF (σ := (Int × Unit) × Unit) ((0, ()), ()) H fun s2 H3 next4 => cnd (decide
    ((s2.1.1 : Int) < ((n1 - ((pfrm : Int).toNat) : Nat) : Int))) (0 ≤ (s2.1.1 : Int) ∧ (s2.1.1 : Int) < ((n1 - ((pfrm : Int).toNat) : Nat) : Int) ∧ onPtr (cutA A1 (((pfrm : Int).toNat) * 5) (decide (c1 = ((pfrm :
    Int).toNat)))) fun b5 o5 => ∃ x6 : Int, cl H3 b5 (o5 + (s2.1.1 : Int).toNat * 5) = some (.int .i64 x6) ∧ ∃ x7 : Int, cl H3 b5 ((o5 + (s2.1.1 : Int).toNat * 5) + 1) = some (.int .i64 x7) ∧ ∃ x8 : Int, cl H3 b5 (((o5 +
    (s2.1.1 : Int).toNat * 5) + 1) + 1) = some (.int .i64 x8) ∧ ∃ x9 : Int, cl H3 b5 ((((o5 + (s2.1.1 : Int).toNat * 5) + 1) + 1) + 1) = some (.int .i64 x9) ∧ ∃ x10 : Int, cl H3 b5 (((((o5 + (s2.1.1 : Int).toNat * 5) + 1)
    + 1) + 1) + 1) = some (.int .i64 x10) ∧ jn (fun (j11 : Bool) => cnd j11 (Q (.bool true) H3) (KeepX [some (.v (.int .i64 ptxn)), some (.v (.int .i64 pitem)), some (.v (.slice (cutA A1 (((pfrm : Int).toNat) * 5) (decide
    (c1 = ((pfrm : Int).toNat)))) (n1 - ((pfrm : Int).toNat)) (c1 - ((pfrm : Int).toNat)))), some (.v (.int .i64 ((n1 - ((pfrm : Int).toNat) : Nat) : Int)))] [] ∧ next4 ((IntKind.i64.wrap (s2.1.1 + 1), ()), ()) H3)) fun
    J12 => cnd ((x6 : Int) == 3) (cnd ((x7 : Int) == ptxn) (J12 ((x8 : Int) == pitem)) (J12 false)) (J12 false)) (Q (.bool false) H3)
noncomputable def fcx90 : Cx := cx 38 [(10, true)] [(2, ⟨[1, 2, 16, 17], [], [(18, .int .i64)], []⟩)] [] []
theorem f90.eq (ph_b ph_o : Nat) (ptxn : Int) (pitem : Int) (pfrm : Int) (H : Hp) (Q : Value → Hp → Prop) : f90 ph_b ph_o ptxn pitem pfrm H Q = wFun fcx90 Tryz.f90 [.pointer (some ⟨ph_b, ph_o, none⟩), .int .i64 ptxn, .int .i64 pitem, .int .i64 pfrm] H Q := by kernel_rfl
theorem f90.ok (ph_b ph_o : Nat) (ptxn : Int) (pitem : Int) (pfrm : Int) {H : Hp} {Q : Value → Hp → Prop} (h : f90 ph_b ph_o ptxn pitem pfrm H Q) : HCalls Tryz.prog 90 [.pointer (some ⟨ph_b, ph_o, none⟩), .int .i64 ptxn, .int .i64 pitem, .int .i64 pfrm] H Q := hcalls_of (cxOk 38 [(10, true)] [(2, ⟨[1, 2, 16, 17], [], [(18, .int .i64)], []⟩)] [] []) Tryz.func90 (Eq.mp (f90.eq ph_b ph_o ptxn pitem pfrm H Q) h)

/-- justiciar justiciarref29.less -/
def f106 (pa_0 : Int) (pa_1 : Int) (pa_2 : Int) (pa_3 : Int) (pb_0 : Int) (pb_1 : Int) (pb_2 : Int) (pb_3 : Int) (H : Hp) (Q : Value → Hp → Prop) : Prop :=
  newF H 3 [.int .i64 pa_0, .int .i64 pa_1, .int .i64 pa_2, .int .i64 pa_3] fun g1 H2 => newF H2 3 [.int .i64 pb_0, .int .i64 pb_1, .int .i64 pb_2, .int .i64 pb_3] fun g3 H4 => HCalls Tryz.prog 133 [.slice (some ⟨g1, 0,
    none⟩) 4 4, .slice (some ⟨g3, 0, none⟩) 4 4] H4 fun v5 H6 => ∃ x7 : Bool, v5 = .bool x7 ∧ Q (.bool x7) H6
noncomputable def fcx106 : Cx := cx 24 [(2, true), (3, true)] [] [] []
theorem f106.eq (pa_0 : Int) (pa_1 : Int) (pa_2 : Int) (pa_3 : Int) (pb_0 : Int) (pb_1 : Int) (pb_2 : Int) (pb_3 : Int) (H : Hp) (Q : Value → Hp → Prop) : f106 pa_0 pa_1 pa_2 pa_3 pb_0 pb_1 pb_2 pb_3 H Q = wFun fcx106 Tryz.f106 [.agg #[.int .i64 pa_0, .int .i64 pa_1, .int .i64 pa_2, .int .i64 pa_3], .agg #[.int .i64 pb_0, .int .i64 pb_1, .int .i64 pb_2, .int .i64 pb_3]] H Q := by kernel_rfl
theorem f106.ok (pa_0 : Int) (pa_1 : Int) (pa_2 : Int) (pa_3 : Int) (pb_0 : Int) (pb_1 : Int) (pb_2 : Int) (pb_3 : Int) {H : Hp} {Q : Value → Hp → Prop} (h : f106 pa_0 pa_1 pa_2 pa_3 pb_0 pb_1 pb_2 pb_3 H Q) : HCalls Tryz.prog 106 [.agg #[.int .i64 pa_0, .int .i64 pa_1, .int .i64 pa_2, .int .i64 pa_3], .agg #[.int .i64 pb_0, .int .i64 pb_1, .int .i64 pb_2, .int .i64 pb_3]] H Q := hcalls_of (cxOk 24 [(2, true), (3, true)] [] [] []) Tryz.func106 (Eq.mp (f106.eq pa_0 pa_1 pa_2 pa_3 pb_0 pb_1 pb_2 pb_3 H Q) h)

/-- justiciar justiciarref18.Less -/
def f133 (pa_A : Option Addr) (pa_n pa_c : Nat) (pb_A : Option Addr) (pb_n pb_c : Nat) (H : Hp) (Q : Value → Hp → Prop) : Prop :=
  LoopF (σ := (Int × Unit) × Unit) ((0, ()), ()) H fun s1 H2 next3 => jn (fun (j4 : Bool) => cnd j4 (0 ≤ (s1.1.1 : Int) ∧ (s1.1.1 : Int) < ((pa_n : Nat) : Int) ∧ onPtr pa_A fun b6 o6 => ∃ x7 : Int, cl H2 b6 (o6 + (s1.1.1 :
    Int).toNat * 1) = some (.int .i64 x7) ∧ 0 ≤ (s1.1.1 : Int) ∧ (s1.1.1 : Int) < ((pb_n : Nat) : Int) ∧ onPtr pb_A fun b8 o8 => ∃ x9 : Int, cl H2 b8 (o8 + (s1.1.1 : Int).toNat * 1) = some (.int .i64 x9) ∧ cnd ((x7 : Int)
    != x9) (0 ≤ (s1.1.1 : Int) ∧ (s1.1.1 : Int) < ((pa_n : Nat) : Int) ∧ onPtr pa_A fun b10 o10 => ∃ x11 : Int, cl H2 b10 (o10 + (s1.1.1 : Int).toNat * 1) = some (.int .i64 x11) ∧ 0 ≤ (s1.1.1 : Int) ∧ (s1.1.1 : Int) <
    ((pb_n : Nat) : Int) ∧ onPtr pb_A fun b12 o12 => ∃ x13 : Int, cl H2 b12 (o12 + (s1.1.1 : Int).toNat * 1) = some (.int .i64 x13) ∧ Q (.bool (decide ((x11 : Int) < x13))) H2) (KeepX [some (.v (.slice pa_A pa_n pa_c)),
    some (.v (.slice pb_A pb_n pb_c))] [] ∧ next3 ((IntKind.i64.wrap (s1.1.1 + 1), ()), ()) H2)) (Q (.bool (decide ((((pa_n : Nat) : Int) : Int) < ((pb_n : Nat) : Int)))) H2)) fun J5 => cnd (decide ((s1.1.1 : Int) <
    ((pa_n : Nat) : Int))) (J5 (decide ((s1.1.1 : Int) < ((pb_n : Nat) : Int)))) (J5 false)
noncomputable def fcx133 : Cx := cx 41 [] [(2, ⟨[0, 1], [], [(5, .int .i64)], []⟩)] [(4, (.look 0 (.look 1 (.look 2 (.look 3 (.look 4 (.look 5 (.look 6 (.look 7 (.look 8 .done)))))))))), (5, (.look 0 (.look 1 (.look 2 (.look 3 (.look 4 (.look 5 (.look 6 (.look 7 (.look 8 (.act 9 .done .done)))))))))))] []
theorem f133.eq (pa_A : Option Addr) (pa_n pa_c : Nat) (pb_A : Option Addr) (pb_n pb_c : Nat) (H : Hp) (Q : Value → Hp → Prop) : f133 pa_A pa_n pa_c pb_A pb_n pb_c H Q = wFun fcx133 Tryz.f133 [.slice pa_A pa_n pa_c, .slice pb_A pb_n pb_c] H Q := by kernel_rfl
theorem f133.ok (pa_A : Option Addr) (pa_n pa_c : Nat) (pb_A : Option Addr) (pb_n pb_c : Nat) {H : Hp} {Q : Value → Hp → Prop} (h : f133 pa_A pa_n pa_c pb_A pb_n pb_c H Q) : HCalls Tryz.prog 133 [.slice pa_A pa_n pa_c, .slice pb_A pb_n pb_c] H Q := hcalls_of (cxOk 41 [] [(2, ⟨[0, 1], [], [(5, .int .i64)], []⟩)] [(4, (.look 0 (.look 1 (.look 2 (.look 3 (.look 4 (.look 5 (.look 6 (.look 7 (.look 8 .done)))))))))), (5, (.look 0 (.look 1 (.look 2 (.look 3 (.look 4 (.look 5 (.look 6 (.look 7 (.look 8 (.act 9 .done .done)))))))))))] []) Tryz.func133 (Eq.mp (f133.eq pa_A pa_n pa_c pb_A pb_n pb_c H Q) h)

end Go.Proofs.YtibhpoikhkokiaaGreat.Hw

/- The document's histories: what is looked up, versions, arcs put in order (c54, c90, c88, c133, c106, c89). -/
set_option linter.unusedVariables false
set_option linter.unusedSimpArgs false
set_option linter.unusedSectionVars false
set_option maxRecDepth 20000
namespace Go.Proofs.YtibhpoikhkokiaaGreat.Hw
open Go Go.Proofs
/-- Numbers, one for each transaction. -/
def CArr (H : Hp) (g : Nat) (f : Nat → Int) : Prop := PArr H g 3 1 201 (fun t => [.int .i64 (f t)])
theorem CArr.get {H : Hp} {g : Nat} {f : Nat → Int} {x : Int} (h : CArr H g f) (h0 : 0 ≤ x) (h1 : x < 201) : cl H g (0 + x.toNat * 1) = some (.int .i64 (f x.toNat)) := by
  have := PArr.get h (t := x.toNat) (j := 0) (v := .int .i64 (f x.toNat)) (by omega) rfl
  rw [Nat.zero_add]; exact this
theorem CArr.set {H : Hp} {g : Nat} {f : Nat → Int} {x v : Int} {K : Hp → Prop} (h : CArr H g f) (h0 : 0 ≤ x) (h1 : x < 201) (hk : ∀ H', CArr H' g (fun j => if j = x.toNat then v else f j) → (∀ q, q ≠ g → H' q = H q) → K H') : storeF H g (0 + x.toNat * 1) [.int .i64 v] K := by
  have := PArr.set (v := .int .i64 v) (F' := fun j => [.int .i64 (if j = x.toNat then v else f j)]) h (t := x.toNat) (j := 0) (by omega) (by omega) (by simp) (fun u hu => by simp [hu]) hk
  rw [Nat.zero_add]; exact this
def comV (l : List Ev) (t : Int) : Int := match commitI l t with
  | some i => i
  | none => -1
theorem comV_ge {l : List Ev} {t : Int} : decide (comV l t ≥ 0) = comB l t := by
  unfold comV comB
  cases commitI l t with
  | none => rfl
  | some i => exact decide_eq_true (show (i : Int) ≥ 0 by omega)
theorem comV_lt {l : List Ev} {t : Int} : decide (comV l t < 0) = !comB l t := by
  rw [← comV_ge, ← decide_not]
  exact decide_eq_decide.2 (by omega)
structure HisAt (H : Hp) (g ga : Nat) (A : Option Addr) (n c : Nat) (l : List Ev) : Prop where
  cell : H g = some (.cells #[.slice A n c, .slice (some ⟨ga, 0, none⟩) 201 201] 118 (0, 0))
  evs : SlAt evC H A n l
  cap : n ≤ c
  com : CArr H ga (fun t => comV l t)
def wrFrom (l : List Ev) (t i : Int) (k : Nat) : Bool := (l.drop k).any (isW t i)
section
variable {H H' H0 : Hp} {Q : Value → Hp → Prop} {g ga : Nat} {A : Option Addr} {n c : Nat} {l : List Ev}
theorem HisAt.ext (B : HisAt H g ga A n c l) (hx : Ext H H') : HisAt H' g ga A n c l := ⟨hx _ _ B.cell, B.evs.ext hx, B.cap, B.com.keep (ext_at hx B.com.live)⟩
theorem HisAt.cl0 (B : HisAt H g ga A n c l) : cl H g (0 + 0) = some (.slice A n c) := cl_cells (cs := [.slice A n c, .slice (some ⟨ga, 0, none⟩) 201 201]) B.cell 0
theorem HisAt.cl1 (B : HisAt H g ga A n c l) : cl H g (0 + 1) = some (.slice (some ⟨ga, 0, none⟩) 201 201) := cl_cells (cs := [.slice A n c, .slice (some ⟨ga, 0, none⟩) 201 201]) B.cell 1
theorem zero1 : (List.replicate ((201 : Int).toNat) [Value.int .i64 0]).flatten = (List.range 201).flatMap fun _ => [Value.int .i64 0] := by rfl
theorem flat_congr {α : Type} {f f' : α → List Value} : ∀ {l : List α}, (∀ x ∈ l, f x = f' x) → l.flatMap f = l.flatMap f'
  | [], _ => rfl
  | a :: r, h => by
    rw [List.flatMap_cons, List.flatMap_cons, h a List.mem_cons_self, flat_congr fun x hx => h x (List.mem_cons_of_mem _ hx)]
theorem comV_snoc {p : List Ev} {x : Ev} {t : Int} : comV (p ++ [x]) t = if isC t x then (p.length : Int) else comV p t := by
  unfold comV commitI
  rw [lastI_snoc]
  cases isC t x <;> rfl
theorem c54 (hA : SlAt evC H A n l) (hc : n ≤ c) (hok : OkTo l l.length) (hq : ∀ g ga H', Ext H H' → HisAt H' g ga A n c l → Q (.pointer (some ⟨g, 0, none⟩)) H') : HCalls Tryz.prog 54 [.slice A n c] H Q := by
  refine f54.ok _ _ _ ?_
  unfold f54
  obtain rfl := hA.len
  have hlt := hA.lt
  refine ⟨rfl, by decide, by decide, fun g1 hg1 => ?_⟩
  rw [zero1]
  have e2 : CArr (upd g1 (Obj.cells ((List.range 201).flatMap fun _ => [Value.int .i64 0]).toArray 3 (0, 0)) H) g1 (fun _ => 0) := ⟨fun _ => rfl, upd_at⟩
  have x2 : Ext H (upd g1 (Obj.cells ((List.range 201).flatMap fun _ => [Value.int .i64 0]).toArray 3 (0, 0)) H) := Ext.new hg1
  generalize (upd g1 (Obj.cells ((List.range 201).flatMap fun _ => [Value.int .i64 0]).toArray 3 (0, 0)) H) = H2 at e2 x2 ⊢
  intro g3 hg3
  have e4 : (upd g3 (Obj.cells [Value.slice A l.length c, .slice (some ⟨g1, 0, none⟩) ((201 : Int).toNat) ((201 : Int).toNat)].toArray 118 (0, 0)) H2) g3 = some (.cells #[.slice A l.length c, .slice (some ⟨g1, 0, none⟩) 201 201] 118 (0, 0)) := upd_at
  have x4 : Ext H2 (upd g3 (Obj.cells [Value.slice A l.length c, .slice (some ⟨g1, 0, none⟩) ((201 : Int).toNat) ((201 : Int).toNat)].toArray 118 (0, 0)) H2) := Ext.new hg3
  generalize (upd g3 (Obj.cells [Value.slice A l.length c, .slice (some ⟨g1, 0, none⟩) ((201 : Int).toNat) ((201 : Int).toNat)].toArray 118 (0, 0)) H2) = H4 at e4 x4 ⊢
  have hne : g3 ≠ g1 := fun e => e2.live (e ▸ hg3)
  have hH3 : H g3 = none := x2.none hg3
  have r1 : ∀ {X : Hp}, X g3 = some (.cells #[.slice A l.length c, .slice (some ⟨g1, 0, none⟩) 201 201] 118 (0, 0)) → cl X g3 (0 + 1) = some (.slice (some ⟨g1, 0, none⟩) 201 201) := fun {X} h => cl_cells (cs := [.slice A l.length c, .slice (some ⟨g1, 0, none⟩) 201 201]) h 1
  refine ⟨_, _, _, r1 e4, ?_⟩
  refine scan (n := 201) (by omega) (fun i H' => Ext H H' ∧ H' g3 = some (.cells #[.slice A l.length c, .slice (some ⟨g1, 0, none⟩) 201 201] 118 (0, 0)) ∧ CArr H' g1 (fun t => if t < i then -1 else 0)) ⟨x2.trans x4, e4, e2.keep (ext_at x4 e2.live)⟩ (fun i H7 next hi hI hnext => ?_) (fun H7 next hI => ?_)
  · obtain ⟨hx7, e7, a7⟩ := hI
    dsimp only
    refine cndT (decide_eq_true (by omega)) ⟨_, _, _, r1 e7, by omega, by omega, onPtrI ?_⟩
    refine CArr.set a7 (by omega) (by omega) fun H11 a11 f11 => ⟨rfl, hnext H11 ⟨fun q o hq' => ?_, (f11 g3 hne).trans e7, ?_⟩⟩
    · rw [f11 q fun e => by rw [e, hg1] at hq'; cases hq']
      exact hx7 q o hq'
    · have : (fun t => [Value.int .i64 (if t < i + 1 then (-1 : Int) else 0)]) = fun j => [Value.int .i64 (if j = ((i : Int)).toNat then (-1 : Int) else if j < i then -1 else 0)] := by
        funext j
        congr 2
        by_cases h1 : j = i
        · rw [if_pos (by omega), if_pos (by omega)]
        · rw [if_neg (by omega : ¬ j = ((i : Int)).toNat)]
          by_cases h2 : j < i
          · rw [if_pos (by omega), if_pos h2]
          · rw [if_neg (by omega), if_neg h2]
      unfold CArr at a11 ⊢
      rw [this]; exact a11
  · obtain ⟨hx7, e7, a7⟩ := hI
    dsimp only
    refine cndF (by decide) ?_
    have a7' : CArr H7 g1 (fun t => comV (l.take 0) t) := by
      refine ⟨fun _ => rfl, ?_⟩
      have e : (List.range 201).flatMap (fun t => [Value.int .i64 (if t < 201 then (-1 : Int) else 0)]) = (List.range 201).flatMap (fun t : Nat => [Value.int .i64 (comV (l.take 0) t)]) := flat_congr fun t ht => by
        have := List.mem_range.1 ht
        rw [if_pos this]; rfl
      rw [a7.2, e]
    refine scan hlt (fun i H' => Ext H H' ∧ H' g3 = some (.cells #[.slice A l.length c, .slice (some ⟨g1, 0, none⟩) 201 201] 118 (0, 0)) ∧ CArr H' g1 (fun t => comV (l.take i) t)) ⟨hx7, e7, a7'⟩ (fun i H13 next2 hi hI hnext2 => ?_) (fun H13 next2 hI => ?_)
    · obtain ⟨hx13, e13, a13⟩ := hI
      obtain ⟨x, hx⟩ := get_of hi
      have hin : 1 ≤ x.txn ∧ x.txn ≤ 200 := by
        have := (ev_parts (hok i x hi hx)).1
        unfold inB at this; simp at this; exact this
      have hpl : (l.take i).length = i := by rw [List.length_take]; omega
      dsimp only
      refine cndT (decide_eq_true (by omega)) (jn_intro (fun J => ∀ H', Ext H H' → H' g3 = some (.cells #[.slice A l.length c, .slice (some ⟨g1, 0, none⟩) 201 201] 118 (0, 0)) → CArr H' g1 (fun t => comV (l.take (i + 1)) t) → J H') (fun H' a b d => ⟨rfl, hnext2 H' ⟨a, b, d⟩⟩) fun J hJ => ⟨by omega, by omega, rd_ev (hA.ext hx13) hx fun q o _ k1 k2 k3 k4 k5 => ⟨x.op, by simpa using k1, x.txn, by simpa using k2, x.item, by simpa using k3, x.frm, by simpa using k4, x.stmt, by simpa using k5, cndI (fun h4 => ?_) fun h4 => ?_⟩⟩)
      · have o4 : x.op = 4 := by simpa using h4
        refine ⟨_, _, _, r1 e13, by omega, by show x.txn < ((201 : Nat) : Int); omega, onPtrI ?_⟩
        refine CArr.set a13 (by omega) (by omega) fun H23 a23 f23 => hJ H23 (fun q o hq' => ?_) ((f23 g3 hne).trans e13) ?_
        · rw [f23 q fun e => by rw [e, hg1] at hq'; cases hq']
          exact hx13 q o hq'
        · have : (fun t : Nat => [Value.int .i64 (comV (l.take (i + 1)) t)]) = fun j => [Value.int .i64 (if j = x.txn.toNat then (i : Int) else comV (l.take i) j)] := by
            funext j
            congr 2
            rw [take_snoc hx, comV_snoc, hpl]
            by_cases h1 : j = x.txn.toNat
            · rw [if_pos h1, if_pos (isC_iff.2 ⟨o4, by omega⟩)]
            · rw [if_neg h1, if_neg (fun h => h1 (by have := (isC_iff.1 h).2; omega))]
          unfold CArr at a23 ⊢
          rw [this]; exact a23
      · refine hJ H13 hx13 e13 ?_
        have : (fun t : Nat => [Value.int .i64 (comV (l.take (i + 1)) t)]) = fun j : Nat => [Value.int .i64 (comV (l.take i) j)] := by
          funext j
          congr 2
          rw [take_snoc hx, comV_snoc, if_neg]
          intro h
          have := (isC_iff.1 h).1
          rw [this] at h4; cases h4
        unfold CArr
        rw [this]; exact a13
    · obtain ⟨hx13, e13, a13⟩ := hI
      rw [List.take_length] at a13
      dsimp only
      exact cndF (decide_eq_false (by omega)) (hq g3 g1 H13 hx13 ⟨e13, hA.ext hx13, hc, a13⟩)
theorem c90 {t i : Int} {k : Nat} (B : HisAt H g ga A n c l) (hk : k ≤ l.length) (hq : Q (.bool (wrFrom l t i k)) H) : HCalls Tryz.prog 90 [.pointer (some ⟨g, 0, none⟩), .int .i64 t, .int .i64 i, .int .i64 (k : Int)] H Q := by
  refine f90.ok _ _ _ _ _ ?_
  unfold f90
  have hA := B.evs
  obtain rfl := hA.len
  have hlt := hA.lt
  refine ⟨_, _, _, B.cl0, by omega, by omega, ?_⟩
  rw [Int.toNat_natCast]
  have hcut := SlAt.cut (k := 5) (p := k) (m := l.length - k) evC_len hA B.cap (by omega)
  rw [List.take_of_length_le (by rw [List.length_drop]; omega)] at hcut
  have hdl : (l.drop k).length = l.length - k := List.length_drop
  refine scan (n := l.length - k) (by omega) (fun j H' => H' = H ∧ ((l.drop k).take j).any (isW t i) = false) ⟨rfl, by simp⟩ (fun j H2 next hj hI hnext => ?_) (fun H2 next hI => ?_)
  · obtain ⟨rfl, hno⟩ := hI
    obtain ⟨x, hx⟩ := get_of (l := l.drop k) (i := j) (by omega)
    dsimp only
    refine cndT (decide_eq_true (by omega)) ⟨by omega, by omega, rd_ev hcut hx fun q o _ k1 k2 k3 k4 k5 => ⟨x.op, by simpa using k1, x.txn, by simpa using k2, x.item, by simpa using k3, x.frm, by simpa using k4, x.stmt, by simpa using k5, ?_⟩⟩
    refine jn_intro (fun J => J (isW t i x)) (cndI (fun h => ?_) fun h => ⟨rfl, hnext H2 ⟨rfl, ?_⟩⟩) fun J hJ => ?_
    · have : wrFrom l t i k = true := any_hit hx h
      rw [this] at hq; exact hq
    · rw [any_take_succ hx, hno, h]; rfl
    · unfold isW at hJ
      refine cndI (fun h1 => cndI (fun h2 => ?_) fun h2 => ?_) fun h1 => ?_
      · rw [h1, h2] at hJ; exact hJ
      · rw [h2, Bool.false_and, Bool.and_false] at hJ; exact hJ
      · rw [h1, Bool.false_and] at hJ; exact hJ
  · obtain ⟨rfl, hno⟩ := hI
    rw [← hdl, List.take_length] at hno
    dsimp only
    have : wrFrom l t i k = false := hno
    rw [this] at hq
    exact cndF (decide_eq_false (by omega)) hq
theorem wrote_commit (hok : OkTo l l.length) {j : Nat} {x : Ev} (hx : l[j]? = some x) (ho : x.op = 4) (i : Int) : wrFrom l x.txn i 0 = wroteM (l.take j) x.txn i := by
  unfold wrFrom
  rw [List.drop_zero, Bool.eq_iff_iff]
  unfold wroteM
  constructor
  · intro h
    obtain ⟨y, hy, hp⟩ := List.any_eq_true.1 h
    obtain ⟨m, hm⟩ := List.getElem?_of_mem hy
    have hw := isW_iff.1 hp
    have hle := hok.commit_gt hm (by rw [hw.2.1]; exact hok.commit_at hx (isC_iff.2 ⟨ho, rfl⟩))
    have hne : m ≠ j := fun e => by rw [e, hx] at hm; cases hm; omega
    exact any_take.2 ⟨m, y, by omega, hm, hp⟩
  · intro h
    obtain ⟨m, y, _, hm, hp⟩ := any_take.1 h
    exact List.any_eq_true.2 ⟨y, List.mem_of_getElem? hm, hp⟩
def vv (l : List Ev) (item : Int) : List Int := 0 :: versM l item
theorem c88 {item : Int} (B : HisAt H g ga A n c l) (hok : OkTo l l.length) (hs : l.length ≤ 2000) (hq : ∀ A' c' H', Ext H H' → SlAt inC H' A' (vv l item).length (vv l item) → Q (.slice A' (vv l item).length c') H') : HCalls Tryz.prog 88 [.pointer (some ⟨g, 0, none⟩), .int .i64 item] H Q := by
  refine f88.ok _ _ _ ?_
  unfold f88
  have hA := B.evs
  obtain rfl := hA.len
  have hlt := hA.lt
  intro g1 hg1
  have x2 : Ext H (upd g1 (Obj.cells [Value.int .i64 0].toArray 3 (0, 0)) H) := Ext.new hg1
  have R2 : Row H (upd g1 (Obj.cells [Value.int .i64 0].toArray 3 (0, 0)) H) (some ⟨g1, 0, none⟩) (vv (l.take 0) item).length 1 1 ((vv (l.take 0) item).flatMap inC) := ⟨rfl, by simp [vv, vers_nil], .inr ⟨g1, [Value.int .i64 0], 3, rfl, upd_at, by simp, rfl, hg1⟩⟩
  generalize (upd g1 (Obj.cells [Value.int .i64 0].toArray 3 (0, 0)) H) = H2 at x2 R2 ⊢
  refine ⟨_, _, _, (B.ext x2).cl0, loop_to l.length (fun i st H' => ∃ A1 c1, st = (((A1, (vv (l.take i) item).length, c1), ((i : Int), ())), ()) ∧ Ext H H' ∧ Row H H' A1 (vv (l.take i) item).length c1 1 ((vv (l.take i) item).flatMap inC)) ⟨_, 1, rfl, x2, R2⟩ ?_⟩
  rintro i st H5 next hi ⟨A1, c1, rfl, hx5, R⟩ hnext
  have B5 := B.ext hx5
  dsimp only
  by_cases h : i < l.length
  · obtain ⟨x, hx⟩ := get_of h
    have ei : IntKind.i64.wrap ((i : Int) + 1) = ((i + 1 : Nat) : Int) := by rw [wrap_id (by omega) (by omega)]; rfl
    have hvl : (vv (l.take i) item).length ≤ 1 + i := by
      have := vers_len (l := l.take i) (k := item)
      rw [List.length_take] at this
      unfold vv; rw [List.length_cons]; omega
    have esn : vv (l.take (i + 1)) item = vv (l.take i) item ++ if x.op == 4 && wroteM (l.take i) x.txn item then [x.txn] else [] := by
      unfold vv; rw [take_snoc hx, vers_snoc]; rfl
    refine cndT (decide_eq_true (by omega)) (jn_intro (fun J => ∀ A2 c2 H', Ext H H' → Row H H' A2 (vv (l.take (i + 1)) item).length c2 1 ((vv (l.take (i + 1)) item).flatMap inC) → J A2 (vv (l.take (i + 1)) item).length c2 H') (fun A2 c2 H' a b => ⟨rfl, hnext _ _ h ⟨A2, c2, by rw [ei], a, b⟩⟩) fun J hJ => ⟨by omega, by omega, rd_ev (hA.ext hx5) hx fun q o _ k1 k2 k3 k4 k5 => ⟨x.op, by simpa using k1, x.txn, by simpa using k2, x.item, by simpa using k3, x.frm, by simpa using k4, x.stmt, by simpa using k5, ?_⟩⟩)
    rw [esn] at hJ
    refine jn_intro (fun J2 => J2 (x.op == 4 && wroteM (l.take i) x.txn item) H5) (cndI (fun hb => ?_) fun hb => ?_) fun J2 h2 => cndI (fun h4 => ?_) fun h4 => ?_
    · rw [hb, if_pos rfl] at hJ
      intro g19 hg19
      exact Row.push1 (w := x.txn) (f := inC) (k := 1) (ty := 3) (fun _ => rfl) (fun x v hv => by obtain rfl := List.mem_singleton.1 hv; rfl) (by omega) R hx5 (by unfold big; omega) hg19 fun A2 c2 H22 R2 x22 _ _ => hJ A2 c2 H22 x22 R2
    · rw [hb, if_neg (by decide), List.append_nil] at hJ
      exact hJ A1 c1 H5 hx5 R
    · have o4 : x.op = 4 := by simpa using h4
      refine c90 (k := 0) B5 (Nat.zero_le _) ⟨_, rfl, ?_⟩
      rw [wrote_commit hok hx o4]
      rw [h4, Bool.true_and] at h2; exact h2
    · rw [h4, Bool.false_and] at h2; exact h2
  · obtain rfl : i = l.length := by omega
    rw [List.take_length] at R ⊢
    have := vers_len (l := l) (k := item)
    exact cndF (decide_eq_false (by omega)) (hq A1 c1 H5 hx5 ⟨rfl, R.cells, by unfold vv huge; rw [List.length_cons]; omega⟩)
/-! ### arcs in order -/
def lexB : List Int → List Int → Bool
  | [], b => decide (0 < b.length)
  | _ :: _, [] => false
  | a :: r, b :: s => if a != b then decide (a < b) else lexB r s
theorem lexB_cons {a b : Int} {r s : List Int} : lexB (a :: r) (b :: s) = if a != b then decide (a < b) else lexB r s := rfl
theorem c133 {A B : Option Addr} {n k ca cb : Nat} {a b : List Int} (hA : SlAt inC H A n a) (hB : SlAt inC H B k b) (hq : Q (.bool (lexB a b)) H) : HCalls Tryz.prog 133 [.slice A n ca, .slice B k cb] H Q := by
  refine f133.ok _ _ _ _ _ _ ?_
  unfold f133
  obtain rfl := hA.len
  obtain rfl := hB.len
  have hl1 := hA.lt
  have hl2 := hB.lt
  refine loop_to a.length (fun i st H' => st = (((i : Int), ()), ()) ∧ H' = H ∧ lexB (a.drop i) (b.drop i) = lexB a b) ⟨rfl, rfl, by simp⟩ ?_
  rintro i st H2 next hi ⟨rfl, rfl, hlex⟩ hnext
  dsimp only
  refine jn_intro (fun J => J (decide (i < a.length) && decide (i < b.length))) ?_ fun J hJ => cndI (fun h => ?_) fun h => ?_
  · refine cndI (fun h => ?_) fun h => ?_
    · rw [Bool.and_eq_true, decide_eq_true_eq, decide_eq_true_eq] at h
      obtain ⟨x, hx⟩ := get_of h.1
      obtain ⟨y, hy⟩ := get_of h.2
      have ea : a.drop i = x :: a.drop (i + 1) := by
        obtain ⟨g1, g2⟩ := List.getElem?_eq_some_iff.1 hx
        rw [List.drop_eq_getElem_cons g1, g2]
      have eb : b.drop i = y :: b.drop (i + 1) := by
        obtain ⟨g1, g2⟩ := List.getElem?_eq_some_iff.1 hy
        rw [List.drop_eq_getElem_cons g1, g2]
      have ei : IntKind.i64.wrap ((i : Int) + 1) = ((i + 1 : Nat) : Int) := by rw [wrap_id (by omega) (by omega)]; rfl
      rw [ea, eb, lexB_cons] at hlex
      refine ⟨by omega, by omega, rd_in hA hx fun q o _ k1 => ⟨x, by simpa using k1, by omega, by omega, rd_in hB hy fun q o _ k2 => ⟨y, by simpa using k2, cndI (fun hne => ⟨by omega, by omega, rd_in hA hx fun q o _ k1 => ⟨x, by simpa using k1, by omega, by omega, rd_in hB hy fun q o _ k2 => ⟨y, by simpa using k2, ?_⟩⟩⟩) fun heq => ⟨rfl, hnext _ _ h.1 ⟨by rw [ei], rfl, ?_⟩⟩⟩⟩⟩
      · rw [if_pos hne] at hlex
        rw [hlex]; exact hq
      · rw [if_neg (by rw [heq]; decide)] at hlex
        exact hlex
    · rw [Bool.and_eq_false_iff, decide_eq_false_iff_not, decide_eq_false_iff_not] at h
      have : lexB (a.drop i) (b.drop i) = decide (((a.length : Nat) : Int) < ((b.length : Nat) : Int)) := by
        by_cases h1 : i < a.length
        · have h2 : ¬ i < b.length := by omega
          rw [List.drop_eq_getElem_cons h1, List.drop_eq_nil_of_le (by omega : b.length ≤ i), decide_eq_false (by omega)]; rfl
        · rw [List.drop_eq_nil_of_le (by omega : a.length ≤ i)]
          show decide (0 < (b.drop i).length) = _
          rw [List.length_drop]
          exact decide_eq_decide.2 (by omega)
      rw [this] at hlex
      rw [hlex]; exact hq
  · have h' : i < a.length := by have := of_decide_eq_true h; omega
    rw [decide_eq_true h', Bool.true_and] at hJ
    rw [show decide (((i : Int)) < ((b.length : Nat) : Int)) = decide (i < b.length) from decide_eq_decide.2 (by omega)]
    exact hJ
  · have h' : ¬ i < a.length := by have := of_decide_eq_false h; omega
    rw [decide_eq_false h', Bool.false_and] at hJ
    exact hJ
open Classical in
noncomputable def ltB (x y : Arc) : Bool := decide (ltA x y)
theorem lex_lt {x y : Arc} : lexB [x.a, x.b, x.kind, x.item] [y.a, y.b, y.kind, y.item] = ltB x y := by
  classical
  rw [Bool.eq_iff_iff]
  unfold ltB
  rw [decide_eq_true_eq]
  unfold ltA
  rw [lexB_cons]
  by_cases h1 : x.a = y.a
  · rw [if_neg (by simp [h1]), lexB_cons]
    by_cases h2 : x.b = y.b
    · rw [if_neg (by simp [h2]), lexB_cons]
      by_cases h3 : x.kind = y.kind
      · rw [if_neg (by simp [h3]), lexB_cons]
        by_cases h4 : x.item = y.item
        · rw [if_neg (by simp [h4])]
          constructor
          · intro h; cases h
          · intro h; omega
        · rw [if_pos (by simpa using h4), decide_eq_true_eq]; omega
      · rw [if_pos (by simpa using h3), decide_eq_true_eq]; omega
    · rw [if_pos (by simpa using h2), decide_eq_true_eq]; omega
  · rw [if_pos (by simpa using h1), decide_eq_true_eq]; omega
theorem c106 {x y : Arc} (hq : ∀ H', Ext H H' → Q (.bool (ltB x y)) H') : HCalls Tryz.prog 106 [.agg #[.int .i64 x.a, .int .i64 x.b, .int .i64 x.kind, .int .i64 x.item], .agg #[.int .i64 y.a, .int .i64 y.b, .int .i64 y.kind, .int .i64 y.item]] H Q := by
  refine f106.ok _ _ _ _ _ _ _ _ ?_
  unfold f106
  intro g1 hg1
  have s1 := fresh_sl (H := H) (g := g1) (ty := 3) (f := inC) (l := [x.a, x.b, x.kind, x.item]) (vs := [Value.int .i64 x.a, .int .i64 x.b, .int .i64 x.kind, .int .i64 x.item]) rfl (by unfold huge; simp)
  have x2 : Ext H (upd g1 (Obj.cells [Value.int .i64 x.a, .int .i64 x.b, .int .i64 x.kind, .int .i64 x.item].toArray 3 (0, 0)) H) := Ext.new hg1
  generalize (upd g1 (Obj.cells [Value.int .i64 x.a, .int .i64 x.b, .int .i64 x.kind, .int .i64 x.item].toArray 3 (0, 0)) H) = H2 at s1 x2 ⊢
  intro g3 hg3
  have s3 := fresh_sl (H := H2) (g := g3) (ty := 3) (f := inC) (l := [y.a, y.b, y.kind, y.item]) (vs := [Value.int .i64 y.a, .int .i64 y.b, .int .i64 y.kind, .int .i64 y.item]) rfl (by unfold huge; simp)
  have x4 : Ext H2 (upd g3 (Obj.cells [Value.int .i64 y.a, .int .i64 y.b, .int .i64 y.kind, .int .i64 y.item].toArray 3 (0, 0)) H2) := Ext.new hg3
  generalize (upd g3 (Obj.cells [Value.int .i64 y.a, .int .i64 y.b, .int .i64 y.kind, .int .i64 y.item].toArray 3 (0, 0)) H2) = H4 at s3 x4 ⊢
  refine c133 (s1.ext x4) s3 ⟨_, rfl, ?_⟩
  rw [lex_lt]
  exact hq H4 (x2.trans x4)
end
end Go.Proofs.YtibhpoikhkokiaaGreat.Hw
