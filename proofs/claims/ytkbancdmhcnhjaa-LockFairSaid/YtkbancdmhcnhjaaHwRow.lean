/- From a function's contract to its row: what came in reads as it did. -/
import Derived.Test.YtkbancdmhcnhjaaHwMem
import Derived.ChangeReads
import Derived.ChangeSame
import Derived.Deep.Slices
import Derived.SizedLaws
set_option linter.unusedVariables false
set_option linter.unusedSimpArgs false
namespace Go.Proofs.Ytkbancdmhcnhjaa.Hw
open Go
section
variable {H : Type} {enc : TypeId × Value → H} {P : Program} {w w' : World} {base : Nat} {sp : Nat → Bool}
theorem mapM_len {α β : Type} {f : α → Option β} : ∀ {l : List α} {r : List β}, l.mapM f = some r → r.length = l.length
  | [], r, h => by simp at h; subst h; rfl
  | x :: l, r, h => by
    rw [List.mapM_cons] at h
    simp only [bind, Option.bind_eq_some_iff, pure, Option.some.injEq] at h
    obtain ⟨y, _, r', h2, rfl⟩ := h
    simp [mapM_len h2]
/-- A type's parts lie in the table, and a slice's elements take a cell. -/
def partsB (P : Program) (d : Option TypeDesc) : Bool := match d with
  | some (.slice e) => decide (0 < P.cellsOf e) && decide (e < P.types.size)
  | some (.pointer e) => decide (e < P.types.size)
  | some (.struct fs) => fs.toList.all fun f => decide (f.type < P.types.size)
  | some (.array _ e) => decide (e < P.types.size)
  | some (.map _ e) => decide (e < P.types.size)
  | _ => true
/-- So for all types of the table. -/
def cellsB (P : Program) : Bool := (List.range P.types.size).all fun t => partsB P (P.underlying t)
theorem cellsB_ok (h : cellsB P = true) {t : TypeId} (ht : t < P.types.size) : partsB P (P.underlying t) = true := List.all_eq_true.1 h t (List.mem_range.2 ht)
/-- The reading of all cells of a slice is one that is told where to look for more. -/
theorem trodStep_spare {r r' : TypeId → List Value → Option (DataW H × List MemPlace)} {t : TypeId} (hz : partsB P (P.underlying t) = true)
    (hr : ∀ t cs x, t < P.types.size → r t cs = some x → (∀ p ∈ x.2, sp p.block = true) → r' t cs = some x) {cs : List Value} {x : DataW H × List MemPlace}
    (h : DataW.trodStep enc P w base (fun _ => true) true r t cs = some x) (hs : ∀ p ∈ x.2, sp p.block = true) : DataW.trodStep enc P w base sp true r' t cs = some x := by
  unfold DataW.trodStep at h ⊢
  split at h
  case h_6 e a hu =>
    rw [hu] at hz
    have he : e < P.types.size := of_decide_eq_true hz
    simp only [Option.map_eq_some_iff, Option.bind_eq_some_iff] at h ⊢
    obtain ⟨y, ⟨cs', hc, hy⟩, rfl⟩ := h
    exact ⟨y, ⟨cs', hc, hr _ _ _ he hy (fun p hp => hs p (by simp [hp]))⟩, rfl⟩
  case h_8 e a len cap hu =>
    rw [hu] at hz
    simp only [partsB, Bool.and_eq_true, decide_eq_true_eq] at hz
    obtain ⟨hz0, he⟩ := hz
    simp only at h ⊢
    split at h
    · rename_i hc
      rw [if_pos hc]
      simp only [if_true, Option.map_eq_some_iff, Option.bind_eq_some_iff] at h ⊢
      obtain ⟨elems, h1, rest, h2, rfl⟩ := h
      have g : ∀ i y, ((w.cells? base (a.add (i * P.cellsOf e)) (P.cellsOf e)).bind (r e)) = some y → (y ∈ elems ∨ y ∈ rest) → ((w.cells? base (a.add (i * P.cellsOf e)) (P.cellsOf e)).bind (r' e)) = some y := fun i y hy hm => by
        simp only [Option.bind_eq_some_iff] at hy ⊢
        obtain ⟨cs', hc', hy⟩ := hy
        exact ⟨cs', hc', hr _ _ _ he hy (fun p hp => hs p (by
          simp only [List.mem_append, List.mem_flatMap]
          exact .inr ⟨y, hm, hp⟩))⟩
      refine ⟨elems, mapM_carry h1 (fun i y _ hm hy => g i y hy (.inl hm)), rest, ?_, rfl⟩
      have hl2 : rest.length = cap - len := by
        have := mapM_len h2
        simpa using this
      by_cases hspa : sp a.block = true
      · rw [if_pos hspa]
        exact mapM_carry h2 (fun j y _ hm hy => g (len + j) y hy (.inr hm))
      · rw [if_neg hspa]
        have h0 : (elems.length + rest.length) * P.cellsOf e = 0 := by
          refine Classical.byContradiction fun hne => hspa ?_
          have := hs (.cell a.block (a.off + 0)) (by
            simp only [List.mem_append]
            exact .inl (MemPlace.mem_row.2 ⟨0, by omega, rfl⟩))
          exact this
        have : rest.length = 0 := by
          rcases Nat.mul_eq_zero.1 h0 with h3 | h3 <;> omega
        rw [List.length_eq_zero_iff.1 this]
    · cases h
  all_goals first | exact h | skip
  case h_9 fs hu =>
    rw [hu] at hz
    simp only [partsB, List.all_eq_true, decide_eq_true_eq] at hz
    split at h
    · rename_i hc
      rw [if_pos hc]
      simp only [Option.map_eq_some_iff] at h ⊢
      obtain ⟨xs, h1, rfl⟩ := h
      exact ⟨xs, mapM_carry h1 (fun f y hf hm hy => hr _ _ _ (hz f hf) hy (fun p hp => hs p (by
        simp only [List.mem_flatMap]
        exact ⟨y, hm, hp⟩))), rfl⟩
    · cases h
  case h_10 n e hu =>
    rw [hu] at hz
    have he : e < P.types.size := of_decide_eq_true hz
    split at h
    · rename_i hc
      rw [if_pos hc]
      simp only [Option.map_eq_some_iff] at h ⊢
      obtain ⟨xs, h1, rfl⟩ := h
      exact ⟨xs, mapM_carry h1 (fun f y _ hm hy => hr _ _ _ he hy (fun p hp => hs p (by
        simp only [List.mem_flatMap]
        exact ⟨y, hm, hp⟩))), rfl⟩
    · cases h
  case h_14 k e b hu =>
    rw [hu] at hz
    have he : e < P.types.size := of_decide_eq_true hz
    split at h
    · rename_i es clock hm
      simp only
      split at h
      · rename_i hc
        rw [if_pos hc]
        simp only [Option.bind_eq_some_iff] at h ⊢
        obtain ⟨entries, h1, h2⟩ := h
        split at h2
        · rename_i hri
          cases h2
          refine ⟨entries, mapM_carry h1 (fun y z _ hmem hy => ?_), by rw [if_pos hri]⟩
          simp only [Option.bind_eq_some_iff] at hy ⊢
          obtain ⟨key, hk, hy⟩ := hy
          refine ⟨key, hk, ?_⟩
          split at hy
          · rename_i hf
            rw [if_pos hf]
            simp only [Option.map_eq_some_iff] at hy ⊢
            obtain ⟨u, hu2, rfl⟩ := hy
            exact ⟨u, hr _ _ _ he hu2 (fun p hp => hs p (by
              simp only [List.mem_cons, List.mem_flatMap]
              exact .inr ⟨_, hmem, hp⟩)), rfl⟩
          · cases hy
        · cases h2
      · cases h
    · cases h
theorem trod_spare (hz : cellsB P = true) : ∀ (n : Nat) (t : TypeId) (cs : List Value) (x : DataW H × List MemPlace), t < P.types.size →
    DataW.trod enc P w base (fun _ => true) true n t cs = some x → (∀ p ∈ x.2, sp p.block = true) → DataW.trod enc P w base sp true n t cs = some x := by
  intro n
  induction n with
  | zero => intro t cs x _ h; simp [DataW.trod] at h
  | succ n ih =>
    intro t cs x ht h hs
    rw [DataW.trod_step] at h ⊢
    exact trodStep_spare (cellsB_ok hz ht) ih h hs
/-- What came in reads as it did, in a world in which all that was there stays. -/
theorem trodAll_again (hz : cellsB P = true) (hh : ∀ (b : Nat) o, w.heap[b]? = some o → w'.heap[b]? = some o) : ∀ {ts : List TypeId} {vs : List Value} {ds : List (DataW H)} {ps : List MemPlace}, (∀ t ∈ ts, t < P.types.size) →
    DataW.TrodAll enc P w base (fun _ => true) true ts vs ds ps → (∀ p ∈ ps, p.block < w.heap.size) → (∀ p ∈ ps, sp p.block = true) → DataW.TrodAll enc P w' base sp true ts vs ds ps
  | [], vs, ds, ps, _, h, _, _ => by
    obtain ⟨rfl, rfl, rfl⟩ := ChangeShapes.trodAll_nil h
    rfl
  | t :: ts, vs, ds, ps, hts, h, hl, hs => by
    obtain ⟨v, vs', d, ds', a, b, rfl, rfl, rfl, ⟨n, h1⟩, h2⟩ := ChangeShapes.trodAll_cons h
    have hold : ∀ p : MemPlace, p.block < w.heap.size → w'.heap[p.block]? = w.heap[p.block]? := fun p hp => by
      rw [Array.getElem?_eq_getElem hp]
      exact hh _ _ (Array.getElem?_eq_getElem hp)
    have same : ∀ p ∈ a, w.sameAt w' p := fun p hp => by
      have := hold p (hl p (List.mem_append_left _ hp))
      cases p with
      | cell b off => unfold World.sameAt World.cell?; simp only [MemPlace.block] at this; simp only [this]
      | map b => exact this
    exact ⟨a, b, ⟨n, DataW.trod_carry n t _ _ (trod_spare hz n t _ _ (hts t List.mem_cons_self) h1 (fun p hp => hs p (List.mem_append_left _ hp))) same⟩, trodAll_again hz hh (fun t ht => hts t (List.mem_cons_of_mem _ ht)) h2 (fun p hp => hl p (List.mem_append_right _ hp)) (fun p hp => hs p (List.mem_append_right _ hp)), rfl⟩
/-- The row's word for a function that only looks, and makes new memory. -/
theorem post_look {f : Func} {s : ChangeSpec} {apart fresh handsOn again : Bool} {W W' : World} {args : Array Value} {v : Value} {ds gs : List (DataW H)} {before : List MemPlace}
    (hz : cellsB P = true) (hps : ∀ t ∈ f.params.toList, t < P.types.size) (hW : DataW.Whole enc P f.params.toList s.vars apart W args.toList ds gs before) (hsv : s.vars = []) (hargs : (s.fn H (ds ++ gs)).args = ds) (hv2 : (s.fn H (ds ++ gs)).vars = [])
    (hres : ∀ (b : Nat) (sp : Nat → Bool) (hd : Bool), DataW.TrodAll enc P W' b sp hd f.resultTypes.toList (v.resultList f.resultTypes.size) (s.fn H (ds ++ gs)).results [])
    (hh : ∀ (b : Nat) o, W.heap[b]? = some o → W'.heap[b]? = some o) (hos : W'.os = W.os) (hout : W'.output = W.output)
    (hok : ∀ (j : Nat) (t : TypeId) (r : Value), f.resultTypes[j]? = some t → (v.resultList f.resultTypes.size)[j]? = some r → Value.okWide P W' .any 0 t r) :
    s.post enc P f apart fresh handsOn again W args v W' := by
  have hlt : ∀ p ∈ before, p.block < W.heap.size := fun p hp => hW.lt p hp
  have hold : ∀ p ∈ before, (fun b => decide (b < W.heap.size)) p.block = true := fun p hp => by simpa using hlt p hp
  have hW' := hW
  obtain ⟨pa, pv, hA, hV, hpe, hnf, hnd⟩ := hW'
  rw [hsv] at hV
  obtain ⟨hgs, hpv⟩ := ChangeShapes.trodVars_none hV
  subst hpv
  rw [List.append_nil] at hpe
  subst hpe
  have ag : ∀ sp : Nat → Bool, (∀ p ∈ before, sp p.block = true) → DataW.TrodAll enc P W' 0 sp true f.params.toList args.toList (s.fn H (ds ++ gs)).args before := fun sp hsp => by
    rw [hargs]
    exact trodAll_again hz hh hps hA hlt hsp
  have av : ∀ sp : Nat → Bool, DataW.TrodVars enc P W' sp s.vars (s.fn H (ds ++ gs)).vars [] := fun sp => by
    rw [hsv, hv2]
    exact rfl
  have same : ∀ b, b < W.heap.size → W'.heap[b]? = W.heap[b]? := fun b hb => by
    rw [Array.getElem?_eq_getElem hb]; exact hh _ _ (Array.getElem?_eq_getElem hb)
  refine ⟨ds, gs, before, [], before, [], hW, hres _ _ _, ag _ hold, av _, ⟨hos, hout, fun i hi => ?_⟩, fun _ => ?_⟩
  · rw [same i hi]
    cases hx : W.heap[i]? with
    | none => rfl
    | some o =>
      cases o with
      | cells c t fr => exact ⟨rfl, rfl, rfl, fun _ _ => rfl⟩
      | map es clock => exact .inr ⟨rfl, rfl⟩
      | _ => rfl
  · refine ⟨hok, _, _, ([] ++ before) ++ [], ⟨[] ++ before, [], ChangeShapes.trodAll_append (ag _ (fun _ _ => rfl)) (hres _ _ _), av _, rfl, ?_, ?_⟩, ?_⟩
    · intro b off hp
      have hp' : MemPlace.cell b off ∈ before := by simpa using hp
      have h1 := hnf b off hp'
      unfold World.frozen? at h1 ⊢
      rw [same b (hlt _ hp')]
      exact h1
    · intro ha
      have := hnd ha
      simpa using this
    · intro p hp _
      simpa using hp
/-- The whole heap of a world. -/
def hpOf (w : World) : Hp := fun b => w.heap[b]?
theorem cl_hp {b o : Nat} {v : Value} (h : w.cell? ⟨b, o, none⟩ = some v) : cl (hpOf w) b o = some v := by
  unfold World.cell? at h
  unfold cl hpOf
  split at h
  · rename_i c _ _ hb
    simp only at hb
    rw [hb]
    simpa using h
  · cases h
/-- A datum of which no part is too large. -/
def Sz (P : Program) (t : TypeId) (d : DataW H) : Prop := ∀ n ∈ d.weights P t, n ≤ reachBytes
theorem mem_all {e : TypeId} {d : DataW H} {n : Nat} : ∀ {l : List (DataW H)}, d ∈ l → n ∈ d.weights P e → n ∈ DataW.weightsAll P e l
  | x :: r, h, hn => by
    simp only [DataW.weightsAll, List.mem_append]
    rcases List.mem_cons.1 h with h | h
    · subst h; exact .inl hn
    · exact .inr (mem_all h hn)
theorem Sz.two {t : TypeId} {f0 f1 : Field} {d0 d1 : DataW H} (ht : P.underlying t = some (.struct #[f0, f1])) (h : Sz P t (.agg [d0, d1])) : Sz P f0.type d0 ∧ Sz P f1.type d1 := by
  unfold Sz at h
  simp only [DataW.weights, ht, DataW.weightsEach, List.map_cons, List.map_nil, List.append_nil, List.mem_append] at h
  exact ⟨fun n hn => h n (.inl hn), fun n hn => h n (.inr hn)⟩
theorem Sz.three {t : TypeId} {f0 f1 f2 : Field} {d0 d1 d2 : DataW H} (ht : P.underlying t = some (.struct #[f0, f1, f2])) (h : Sz P t (.agg [d0, d1, d2])) : Sz P f0.type d0 ∧ Sz P f1.type d1 ∧ Sz P f2.type d2 := by
  unfold Sz at h
  simp only [DataW.weights, ht, DataW.weightsEach, List.map_cons, List.map_nil, List.append_nil, List.mem_append] at h
  exact ⟨fun n hn => h n (.inl hn), fun n hn => h n (.inr (.inl hn)), fun n hn => h n (.inr (.inr hn))⟩
/-- A slice that came in: its cells, element by element. -/
theorem open_cells {spare : Nat → Bool} {held : Bool} {t e : TypeId} {fuel : Nat} {cs : List Value} {x : DataW H × List MemPlace} (ht : P.underlying t = some (.slice e)) (hC : 0 < P.cellsOf e) (hB : 0 < P.bytesOf e) (hsz : Sz P t x.1) (h : DataW.trod enc P w base spare held fuel t cs = some x) :
    ∃ (A : Option Addr) (n c : Nat) (f : Nat → List Value), cs = [.slice A n c] ∧ n ≤ reachBytes ∧ cellsAt (hpOf w) A ((List.range n).flatMap f) ∧ ∀ i, i < n → (f i).length = P.cellsOf e ∧ ∃ m y, Sz P e y.1 ∧ DataW.trod enc P w base spare held m e (f i) = some y := by
  rcases Go.Deep.open_slice ht h with ⟨rfl, _⟩ | ⟨a, len, cap, m, n, D, Pl, rfl, hb, hl, hm, hmm, hx, hi⟩
  · exact ⟨none, 0, 0, fun _ => [], rfl, by omega, .inl rfl, fun i hi => by omega⟩
  have hlm : len ≤ m := by rw [hmm]; split <;> omega
  have hsz' : (∀ k, k = (len + (m - len)) * P.bytesOf e → k ≤ reachBytes) ∧ ∀ i, i < len → Sz P e (D i) := by
    rw [hx] at hsz
    unfold Sz at hsz
    simp only [DataW.weights, ht, List.length_map, List.length_range, List.mem_cons, List.mem_append] at hsz
    exact ⟨fun k hk => hsz k (.inl hk), fun i hi k hk => hsz k (.inr (.inl (mem_all (List.mem_map_of_mem (f := D) (List.mem_range.2 hi)) hk)))⟩
  have hlr : len ≤ reachBytes := by
    have h1 := hsz'.1 _ rfl
    have h2 : len * 1 ≤ (len + (m - len)) * P.bytesOf e := Nat.mul_le_mul (by omega) hB
    omega
  refine ⟨some a, len, cap, fun i => (w.cells? base (a.add (i * P.cellsOf e)) (P.cellsOf e)).getD [], rfl, hlr, ?_, fun i him => ?_⟩
  rotate_left
  · obtain ⟨cs', hc, ht'⟩ := hi i (by omega)
    refine ⟨?_, n, _, hsz'.2 i him, by simp only [hc, Option.getD_some]; exact ht'⟩
    simp only [hc, Option.getD_some]
    exact (World.cells?_some hc).2.1
  by_cases h0 : len = 0
  · subst h0; exact .inl rfl
  · obtain ⟨cs0, hc0, _⟩ := hi 0 (by omega)
    have hs0 := (World.cells?_some hc0).2.2 0 hC
    have hsp : a.spot = none := by
      obtain ⟨_, hl0, hat⟩ := World.cells?_some hc0
      have h1 := hat 0 hC
      rw [Nat.zero_mul] at h1
      have h2 : (a.add 0).add 0 = a := rfl
      rw [h2, List.getElem?_eq_getElem (by omega)] at h1
      unfold World.cell? at h1
      split at h1
      · split at h1
        · cases h1
        · rename_i hn
          cases hsp : a.spot with
          | none => rfl
          | some q => rw [hsp] at hn; simp at hn
      · cases h1
    obtain ⟨b, o, q⟩ := a
    simp only at hsp
    subst hsp
    have hadd : ∀ o k, (⟨b, o, none⟩ : Addr).add k = ⟨b, o + k, none⟩ := fun o k => by
      unfold Addr.add
      by_cases hk : k = 0
      · subst hk; rfl
      · simp [hk]
    refine .inr ⟨b, o, rfl, fun j v hj => ?_⟩
    have hlen : ∀ i ∈ List.range len, ((w.cells? base ((⟨b, o, none⟩ : Addr).add (i * P.cellsOf e)) (P.cellsOf e)).getD []).length = P.cellsOf e := fun i him => by
      obtain ⟨cs', hc, _⟩ := hi i (by have := List.mem_range.1 him; omega)
      simp only [hc, Option.getD_some]
      exact (World.cells?_some hc).2.1
    have hjl : j < len * P.cellsOf e := by
      have := (List.getElem?_eq_some_iff.1 hj).1
      rw [flat_length hlen, List.length_range] at this
      exact this
    have hdm : j = j / P.cellsOf e * P.cellsOf e + j % P.cellsOf e := by
      have := Nat.div_add_mod j (P.cellsOf e)
      rw [Nat.mul_comm] at this
      exact this.symm
    have hil : j / P.cellsOf e < len := Nat.div_lt_of_lt_mul (by rw [Nat.mul_comm]; exact hjl)
    have hql : j % P.cellsOf e < P.cellsOf e := Nat.mod_lt _ hC
    rw [hdm, flat_get hlen (x := j / P.cellsOf e) (by simp [hil]) hql] at hj
    obtain ⟨cs', hc, _⟩ := hi (j / P.cellsOf e) (by omega)
    simp only [hc, Option.getD_some] at hj
    have h3 := (World.cells?_some hc).2.2 _ hql
    rw [hj, hadd, hadd] at h3
    have h4 := cl_hp h3
    rw [Nat.add_assoc, ← hdm] at h4
    exact h4
/-- A struct of two or three one-cell fields: the fields' own readings. -/
theorem open_two {spare : Nat → Bool} {held : Bool} {t : TypeId} {f0 f1 : Field} {fuel : Nat} {cs : List Value} {x : DataW H × List MemPlace} (ht : P.underlying t = some (.struct #[f0, f1])) (hc : P.cellsOf t = 2)
    (h0 : f0.offset = 0 ∧ P.cellsOf f0.type = 1) (h1 : f1.offset = 1 ∧ P.cellsOf f1.type = 1) (hsz : Sz P t x.1) (h : DataW.trod enc P w base spare held fuel t cs = some x) :
    ∃ v0 v1 n y0 y1, cs = [v0, v1] ∧ (Sz P f0.type y0.1 ∧ Sz P f1.type y1.1) ∧ DataW.trod enc P w base spare held n f0.type [v0] = some y0 ∧ DataW.trod enc P w base spare held n f1.type [v1] = some y1 := by
  obtain ⟨xs, n, _, rfl, hl, hx, hf⟩ := DataW.trod_struct ht h
  rw [hc] at hl
  match cs, hl with
  | [v0, v1], _ =>
    have e0 := hf 0 f0 rfl
    have e1 := hf 1 f1 rfl
    rw [h0.1, h0.2] at e0
    rw [h1.1, h1.2] at e1
    match xs, hx with
    | [y0, y1], _ => exact ⟨v0, v1, n, y0, y1, rfl, Sz.two ht hsz, e0, e1⟩
theorem open_three {spare : Nat → Bool} {held : Bool} {t : TypeId} {f0 f1 f2 : Field} {fuel : Nat} {cs : List Value} {x : DataW H × List MemPlace} (ht : P.underlying t = some (.struct #[f0, f1, f2])) (hc : P.cellsOf t = 3)
    (h0 : f0.offset = 0 ∧ P.cellsOf f0.type = 1) (h1 : f1.offset = 1 ∧ P.cellsOf f1.type = 1) (h2 : f2.offset = 2 ∧ P.cellsOf f2.type = 1) (hsz : Sz P t x.1) (h : DataW.trod enc P w base spare held fuel t cs = some x) :
    ∃ v0 v1 v2 n y0 y1 y2, cs = [v0, v1, v2] ∧ (Sz P f0.type y0.1 ∧ Sz P f1.type y1.1 ∧ Sz P f2.type y2.1) ∧ DataW.trod enc P w base spare held n f0.type [v0] = some y0 ∧ DataW.trod enc P w base spare held n f1.type [v1] = some y1 ∧ DataW.trod enc P w base spare held n f2.type [v2] = some y2 := by
  obtain ⟨xs, n, _, rfl, hl, hx, hf⟩ := DataW.trod_struct ht h
  rw [hc] at hl
  match cs, hl with
  | [v0, v1, v2], _ =>
    have e0 := hf 0 f0 rfl
    have e1 := hf 1 f1 rfl
    have e2 := hf 2 f2 rfl
    rw [h0.1, h0.2] at e0
    rw [h1.1, h1.2] at e1
    rw [h2.1, h2.2] at e2
    match xs, hx with
    | [y0, y1, y2], _ => exact ⟨v0, v1, v2, n, y0, y1, y2, rfl, Sz.three ht hsz, e0, e1, e2⟩
def chk2 (P : Program) (t a b : Nat) : Bool := Nat.beq (P.cellsOf t) 2 && (match P.underlying t with
  | some (.struct fs) => (match fs.toList with
    | [f0, f1] => Nat.beq f0.type a && Nat.beq f0.offset 0 && Nat.beq (P.cellsOf a) 1 && Nat.beq f1.type b && Nat.beq f1.offset 1 && Nat.beq (P.cellsOf b) 1
    | _ => false)
  | _ => false)
def chk3 (P : Program) (t a b c : Nat) : Bool := Nat.beq (P.cellsOf t) 3 && (match P.underlying t with
  | some (.struct fs) => (match fs.toList with
    | [f0, f1, f2] => Nat.beq f0.type a && Nat.beq f0.offset 0 && Nat.beq (P.cellsOf a) 1 && Nat.beq f1.type b && Nat.beq f1.offset 1 && Nat.beq (P.cellsOf b) 1 && Nat.beq f2.type c && Nat.beq f2.offset 2 && Nat.beq (P.cellsOf c) 1
    | _ => false)
  | _ => false)
theorem opn2 {spare : Nat → Bool} {held : Bool} {t a b : Nat} {fuel : Nat} {cs : List Value} {x : DataW H × List MemPlace} (hc : chk2 P t a b = true) (hsz : Sz P t x.1) (h : DataW.trod enc P w base spare held fuel t cs = some x) :
    ∃ v0 v1 n y0 y1, cs = [v0, v1] ∧ (Sz P a y0.1 ∧ Sz P b y1.1) ∧ DataW.trod enc P w base spare held n a [v0] = some y0 ∧ DataW.trod enc P w base spare held n b [v1] = some y1 := by
  unfold chk2 at hc
  rw [Bool.and_eq_true] at hc
  obtain ⟨hc0, hc⟩ := hc
  split at hc
  · rename_i fs hu
    split at hc
    · rename_i f0 f1 hfs
      have : fs = #[f0, f1] := Array.ext' hfs
      subst this
      simp only [Bool.and_eq_true] at hc
      obtain ⟨⟨⟨⟨⟨h1, h2⟩, h3⟩, h4⟩, h5⟩, h6⟩ := hc
      cases Nat.eq_of_beq_eq_true h1
      cases Nat.eq_of_beq_eq_true h4
      exact open_two hu (Nat.eq_of_beq_eq_true hc0) ⟨Nat.eq_of_beq_eq_true h2, Nat.eq_of_beq_eq_true h3⟩ ⟨Nat.eq_of_beq_eq_true h5, Nat.eq_of_beq_eq_true h6⟩ hsz h
    · cases hc
  · cases hc
theorem opn3 {spare : Nat → Bool} {held : Bool} {t a b c : Nat} {fuel : Nat} {cs : List Value} {x : DataW H × List MemPlace} (hc : chk3 P t a b c = true) (hsz : Sz P t x.1) (h : DataW.trod enc P w base spare held fuel t cs = some x) :
    ∃ v0 v1 v2 n y0 y1 y2, cs = [v0, v1, v2] ∧ (Sz P a y0.1 ∧ Sz P b y1.1 ∧ Sz P c y2.1) ∧ DataW.trod enc P w base spare held n a [v0] = some y0 ∧ DataW.trod enc P w base spare held n b [v1] = some y1 ∧ DataW.trod enc P w base spare held n c [v2] = some y2 := by
  unfold chk3 at hc
  rw [Bool.and_eq_true] at hc
  obtain ⟨hc0, hc⟩ := hc
  split at hc
  · rename_i fs hu
    split at hc
    · rename_i f0 f1 f2 hfs
      have : fs = #[f0, f1, f2] := Array.ext' hfs
      subst this
      simp only [Bool.and_eq_true] at hc
      obtain ⟨⟨⟨⟨⟨⟨⟨⟨h1, h2⟩, h3⟩, h4⟩, h5⟩, h6⟩, h7⟩, h8⟩, h9⟩ := hc
      cases Nat.eq_of_beq_eq_true h1
      cases Nat.eq_of_beq_eq_true h4
      cases Nat.eq_of_beq_eq_true h7
      exact open_three hu (Nat.eq_of_beq_eq_true hc0) ⟨Nat.eq_of_beq_eq_true h2, Nat.eq_of_beq_eq_true h3⟩ ⟨Nat.eq_of_beq_eq_true h5, Nat.eq_of_beq_eq_true h6⟩ ⟨Nat.eq_of_beq_eq_true h8, Nat.eq_of_beq_eq_true h9⟩ hsz h
    · cases hc
  · cases hc
end
end Go.Proofs.Ytkbancdmhcnhjaa.Hw
