/- Ranges over maps whose keys are whole numbers. -/
import Derived.Test.YtkbancdmhcnhjaaHwMap
set_option linter.unusedVariables false
set_option linter.unusedSimpArgs false
namespace Go.Proofs.Ytkbancdmhcnhjaa.Hw
open Go
theorem map_erase {α β : Type} {f : α → β} : ∀ {l : List α} {j : Nat}, (l.eraseIdx j).map f = (l.map f).eraseIdx j
  | [], _ => rfl
  | a :: r, 0 => rfl
  | a :: r, j + 1 => by simp only [List.eraseIdx_cons_succ, List.map_cons, map_erase (l := r)]
theorem nodup_inj {α β : Type} {f : α → β} : ∀ {l : List α}, (l.map f).Nodup → ∀ a ∈ l, ∀ b ∈ l, f a = f b → a = b
  | [], _, a, ha, _, _, _ => by cases ha
  | c :: r, h, a, ha, b, hb, e => by
    rw [List.map_cons, List.nodup_cons] at h
    rcases List.mem_cons.1 ha with rfl | ha' <;> rcases List.mem_cons.1 hb with rfl | hb'
    · rfl
    · exact absurd (e ▸ List.mem_map_of_mem hb') h.1
    · exact absurd (e.symm ▸ List.mem_map_of_mem ha') h.1
    · exact nodup_inj h.2 a ha' b hb' e
theorem kvGet_mem {x : Int} {v : Value} : ∀ {kv : KV}, keysD kv → (kvGet kv x = some v ↔ (x, v) ∈ kv)
  | [], _ => by simp [kvGet]
  | (y, u) :: r, h => by
    unfold keysD at h
    rw [List.map_cons, List.nodup_cons] at h
    have ih := kvGet_mem (x := x) (v := v) (kv := r) h.2
    unfold kvGet at ih ⊢
    rw [List.find?_cons, List.mem_cons]
    by_cases e : x = y
    · subst e
      simp only [decide_true]
      constructor
      · intro h'; left; simpa using h'.symm
      · rintro (h' | h')
        · injection h' with _ h'; simp [h']
        · exact absurd (List.mem_map_of_mem (f := (·.1)) h') h.1
    · simp only [decide_eq_false e]
      rw [ih]
      constructor
      · exact .inr
      · rintro (h' | h')
        · injection h' with h' _; exact absurd h' e
        · exact h'
theorem kvDel_eq {x : Int} : ∀ {kv : KV}, keysD kv → kvDel kv x = kv.filter fun p => decide (p.1 ≠ x)
  | [], _ => rfl
  | (y, u) :: r, h => by
    unfold keysD at h
    rw [List.map_cons, List.nodup_cons] at h
    have ih := kvDel_eq (x := x) (kv := r) h.2
    unfold kvDel at ih ⊢
    rw [List.findIdx?_cons, List.filter_cons]
    by_cases e : x = y
    · subst e
      simp only [decide_true, if_true, List.eraseIdx_zero, List.tail_cons, ne_eq, not_true_eq_false, decide_false, Bool.false_eq_true, if_false]
      refine (List.filter_eq_self.2 fun p hp => ?_).symm
      exact decide_eq_true fun e => h.1 (e ▸ List.mem_map_of_mem (f := (·.1)) hp)
    · simp only [decide_eq_false e]
      rw [if_pos (decide_eq_true (Ne.symm e)), ← ih]
      cases hr : List.findIdx? (fun p => decide (x = p.1)) r with
      | none => rfl
      | some i => rfl
theorem keysD_del {x : Int} {kv : KV} (h : keysD kv) : keysD (kvDel kv x) := by
  rw [kvDel_eq h]
  unfold keysD at h ⊢
  exact h.sublist (List.filter_sublist.map _)
theorem kvDel_len {x : Int} {v : Value} {kv : KV} (h : keysD kv) (hm : (x, v) ∈ kv) : (kvDel kv x).length < kv.length := by
  rw [kvDel_eq h]
  refine Nat.lt_of_le_of_ne (List.length_filter_le _ _) fun e => ?_
  have := List.length_filter_eq_length_iff.1 e (x, v) hm
  simp at this
theorem mem_kvDel {x : Int} {kv : KV} {p : Int × Value} (h : keysD kv) : p ∈ kvDel kv x ↔ p ∈ kv ∧ p.1 ≠ x := by
  rw [kvDel_eq h, List.mem_filter]; simp
section
variable {k : IntKind} {H : Hp} {es : Array MapEntry} {clock : Nat} {kv : KV} {x : Int} {v : Value}
theorem EsOf.keyD (h : EsOf k es clock kv) : (es.toList.map (·.key)).Nodup := by
  obtain ⟨h1, _, _, h4⟩ := h
  have e : es.toList.map (·.key) = (kv.map (·.1)).map (Value.int k) := by
    have := congrArg (List.map (·.1)) h1
    simpa [List.map_map, Function.comp_def] using this
  rw [e]
  unfold keysD at h4
  refine List.pairwise_map.2 (List.Pairwise.imp (fun hne he => ?_) h4)
  injection he with _ he
  exact hne he
theorem EsOf.pair (h : EsOf k es clock kv) {e : MapEntry} (he : e ∈ es.toList) : ∃ y, e.key = .int k y ∧ (y, e.val) ∈ kv := by
  have : (e.key, e.val) ∈ kv.map (fun p => (Value.int k p.1, p.2)) := by rw [← h.1]; exact List.mem_map_of_mem he
  obtain ⟨p, hp, e2⟩ := List.mem_map.1 this
  injection e2 with h1 h2
  exact ⟨p.1, h1.symm, by rw [← h2]; exact hp⟩
theorem EsOf.back (h : EsOf k es clock kv) {y : Int} {u : Value} (hm : (y, u) ∈ kv) : ∃ e ∈ es.toList, e.key = .int k y ∧ e.val = u := by
  have : (Value.int k y, u) ∈ es.toList.map (fun e => (e.key, e.val)) := by rw [h.1]; exact List.mem_map_of_mem (f := fun p : Int × Value => (Value.int k p.1, p.2)) hm
  obtain ⟨e, he, e2⟩ := List.mem_map.1 this
  injection e2 with h1 h2
  exact ⟨e, he, h1, h2⟩
/-- A range that is under way: the keys that it has not met. -/
def IterAt (k : IntKind) (H : Hp) (i b : Nat) (kv : KV) (left : List Int) : Prop :=
  ∃ es clock since seen c0, H i = some (.mapIter (some b) since seen c0) ∧ H b = some (.map es clock) ∧ EsOf k es clock kv ∧ (∀ e ∈ es.toList, e.born < since) ∧ since ≤ c0 ∧ since ≤ clock ∧
    left.Nodup ∧ ∀ y, y ∈ left ↔ ∃ e ∈ es.toList, seen.contains e.born = false ∧ e.key = .int k y
/-- The entry that it met last. -/
def EntAt (k : IntKind) (H : Hp) (i b : Nat) (x : Int) (v : Value) : Prop :=
  ∃ (since : Nat) (seen : Array Nat) (es : Array MapEntry) (clock : Nat) (e : MapEntry), H i = some (.mapIter (some b) since (seen.push e.born) clock) ∧ H b = some (.map es clock) ∧ e ∈ es.toList ∧ (es.toList.map (·.born)).Nodup ∧ e.key = .int k x ∧ e.val = v
theorem IterAt.map {i b : Nat} {left : List Int} (h : IterAt k H i b kv left) : MapAt k H b kv := by
  obtain ⟨es, clock, since, seen, c0, h1, h2, h3, _⟩ := h
  exact ⟨es, clock, h2, h3⟩
theorem IterAt.ext {H' : Hp} {i b : Nat} {left : List Int} (h : IterAt k H i b kv left) (hi : H' i = H i) (hb : H' b = H b) : IterAt k H' i b kv left := by
  obtain ⟨es, clock, since, seen, c0, h1, h2, h3⟩ := h
  exact ⟨es, clock, since, seen, c0, hi.trans h1, hb.trans h2, h3⟩
theorem EntAt.ext {H' : Hp} {i b : Nat} (h : EntAt k H i b x v) (hi : H' i = H i) (hb : H' b = H b) : EntAt k H' i b x v := by
  obtain ⟨since, seen, es, clock, e, h1, h2, h3⟩ := h
  exact ⟨since, seen, es, clock, e, hi.trans h1, hb.trans h2, h3⟩
theorem range_to {b : Nat} {K : Nat → Hp → Prop} (h : MapAt k H b kv) (hk : ∀ i H', H i = none → Ext H H' → IterAt k H' i b kv (kv.map (·.1)) → (∀ q, q ≠ i → H' q = H q) → K i H') : rangeF H (some b) K := by
  obtain ⟨es, clock, hb, he⟩ := h
  refine ⟨b, es, clock, rfl, hb, fun i hi => ?_⟩
  have hne : b ≠ i := fun e => by rw [e, hi] at hb; cases hb
  refine hk i _ hi (Ext.new hi) ⟨es, clock, clock, #[], clock, upd_at, (upd_off hne).trans hb, he, he.2.2.1, Nat.le_refl _, Nat.le_refl _, he.2.2.2, fun y => ?_⟩ (fun q hq => upd_off hq)
  constructor
  · intro hy
    obtain ⟨p, hp, rfl⟩ := List.mem_map.1 hy
    obtain ⟨e, h1, h2, _⟩ := he.back (y := p.1) (u := p.2) hp
    exact ⟨e, h1, by simp, h2⟩
  · rintro ⟨e, h1, _, h2⟩
    obtain ⟨z, h3, h4⟩ := he.pair h1
    rw [h2] at h3
    injection h3 with _ h3
    rw [h3]
    exact List.mem_map_of_mem (f := (·.1)) h4
theorem next_to {i b : Nat} {left : List Int} {Kn : Prop} {Ks : Value → Value → Hp → Prop} (h : IterAt k H i b kv left) (hne : i ≠ b) (hn : left = [] → Kn)
    (hs : ∀ x v H', (x, v) ∈ kv → x ∈ left → IterAt k H' i b kv (left.filter fun y => decide (y ≠ x)) → EntAt k H' i b x v → (∀ q, q ≠ i → H' q = H q) → Ks (.int k x) v H') : nextF H i 0 Kn Ks := by
  obtain ⟨es, clock, since, seen, c0, h1, h2, h3, h4, h5, h6, h7, h8⟩ := h
  refine ⟨rfl, b, since, seen, c0, es, clock, h1, h2, h4, h5, fun h0 => hn ?_, fun e he => ?_⟩
  · rw [List.eq_nil_iff_forall_not_mem]
    intro y hy
    obtain ⟨e, g1, g2, g3⟩ := (h8 y).1 hy
    have : e ∈ leftOf es seen := by unfold leftOf; rw [Array.mem_filter]; exact ⟨Array.mem_def.2 g1, by rw [g2]; rfl⟩
    have := Array.size_pos_of_mem this
    omega
  · have he' : e ∈ leftOf es seen := Array.mem_def.2 he
    unfold leftOf at he'
    rw [Array.mem_filter] at he'
    have hm := Array.mem_def.1 he'.1
    have hc : seen.contains e.born = false := by simpa using he'.2
    obtain ⟨y, hy, hyk⟩ := h3.pair hm
    rw [hy]
    have hb' : (upd i (.mapIter (some b) since (seen.push e.born) clock) H) b = some (.map es clock) := (upd_off (Ne.symm hne)).trans h2
    refine hs y e.val _ hyk ((h8 y).2 ⟨e, hm, hc, hy⟩) ⟨es, clock, since, _, clock, upd_at, hb', h3, h4, h6, h6, h7.filter _, fun z => ?_⟩ ⟨since, seen, es, clock, e, upd_at, hb', hm, h3.2.1, hy, rfl⟩ (fun q hq => upd_off hq)
    rw [List.mem_filter, h8, decide_eq_true_eq]
    constructor
    · rintro ⟨⟨e', g1, g2, g3⟩, hz⟩
      refine ⟨e', g1, ?_, g3⟩
      have hne' : e'.born ≠ e.born := fun eb => by
        have := nodup_inj h3.2.1 e' g1 e hm eb
        subst this
        rw [hy] at g3
        injection g3 with _ g3
        exact hz g3.symm
      rw [Array.contains_push, g2]
      simp [hne']
    · rintro ⟨e', g1, g2, g3⟩
      rw [Array.contains_push, Bool.or_eq_false_iff] at g2
      refine ⟨⟨e', g1, g2.1, g3⟩, fun ez => ?_⟩
      subst ez
      have := nodup_inj h3.keyD e' g1 e hm (g3.trans hy.symm)
      subst this
      have := g2.2
      simp at this
theorem entry_to {i b : Nat} {K : Value → Value → Prop} (h : EntAt k H i b x v) (hk : K (.int k x) v) : entryF H i 0 K := by
  obtain ⟨since, seen, es, clock, e, h1, h2, h3, h4, h5, h6⟩ := h
  exact ⟨rfl, b, since, seen, es, clock, e, h1, h2, h3, h4, by rw [h5, h6]; exact hk⟩
theorem del_to {i b : Nat} {left : List Int} {K : Hp → Prop} (h : IterAt k H i b kv left) (hne : i ≠ b) (hx : x ∉ left) (hk : ∀ H', IterAt k H' i b (kvDel kv x) left → (∀ q, q ≠ b → H' q = H q) → K H') : delF H k (some b) x K := by
  obtain ⟨es, clock, since, seen, c0, h1, h2, h3, h4, h5, h6, h7, h8⟩ := h
  refine ⟨b, es, clock, rfl, h2, h3.ints, ?_⟩
  have hi : ∀ o, (upd b o H) i = some (.mapIter (some b) since seen c0) := fun o => (upd_off hne).trans h1
  have hd := keysD_del (x := x) h3.2.2.2
  unfold delE
  rw [esOf_at h3.1]
  unfold kvDel at hk hd
  cases hf : kv.findIdx? (fun p => decide (x = p.1)) with
  | none =>
    rw [hf] at hk
    exact hk _ ⟨es, clock, since, seen, c0, hi _, upd_at, h3, h4, h5, h6, h7, h8⟩ (fun q hq => upd_off hq)
  | some j =>
    rw [hf] at hk hd
    have hlen : es.size = kv.length := esOf_len h3
    rw [List.findIdx?_eq_some_iff_getElem] at hf
    obtain ⟨hlt, hp, _⟩ := hf
    have hp := of_decide_eq_true hp
    have hl : (es.eraseIdxIfInBounds j).toList = es.toList.eraseIdx j := by
      unfold Array.eraseIdxIfInBounds
      rw [dif_pos (by omega)]
      simp
    have hsub : ∀ e, e ∈ (es.eraseIdxIfInBounds j).toList → e ∈ es.toList := fun e he => by rw [hl] at he; exact List.mem_of_mem_eraseIdx he
    have hkey : ∀ hj : j < es.toList.length, (es.toList[j]).key = .int k x := fun hj => by
      have := congrArg (fun l => l[j]?) h3.1
      simp only [List.getElem?_map, List.getElem?_eq_getElem hj, List.getElem?_eq_getElem hlt, Option.map_some, Option.some.injEq, Prod.mk.injEq] at this
      rw [this.1, hp]
    refine hk _ ⟨es.eraseIdxIfInBounds j, clock, since, seen, c0, hi _, upd_at, ⟨?_, ?_, fun e he => h3.2.2.1 e (hsub e he), hd⟩, fun e he => h4 e (hsub e he), h5, h6, h7, fun y => ?_⟩ (fun q hq => upd_off hq)
    · rw [hl, map_erase, h3.1, map_erase]
    · rw [hl]; exact h3.2.1.sublist ((List.eraseIdx_sublist _ _).map _)
    · rw [h8]
      constructor
      · rintro ⟨e, g1, g2, g3⟩
        refine ⟨e, ?_, g2, g3⟩
        rw [hl, List.mem_eraseIdx_iff_getElem?]
        obtain ⟨m, hm⟩ := List.getElem?_of_mem g1
        refine ⟨m, fun em => ?_, hm⟩
        subst em
        obtain ⟨hj, ej⟩ := List.getElem?_eq_some_iff.1 hm
        have := hkey hj
        rw [ej, g3] at this
        injection this with _ this
        exact hx (this ▸ (h8 y).2 ⟨e, g1, g2, g3⟩)
      · rintro ⟨e, g1, g2, g3⟩
        exact ⟨e, hsub e g1, g2, g3⟩
end
end Go.Proofs.Ytkbancdmhcnhjaa.Hw
