/- Va Vb Vc Vd Ve Vf Vl Vo Ya (joined by merge.py) -/
import Derived.Test.YtibhpoikhkokiaaOne9
/- Histories: shortest circles, plain. -/
set_option linter.unusedVariables false
set_option linter.unusedSimpArgs false
namespace Go.Proofs.Ytibhpoikhkokiaa.Hw
open Go Go.Proofs
/-- From a transaction to another one in some arcs, over greater ones alone. -/
inductive WalkR (E : Int → List Int) (s : Int) : Nat → Int → Prop
  | zero : WalkR E s 0 s
  | succ {k : Nat} {x y : Int} : s < x → y ∈ E x → WalkR E s k y → WalkR E s (k + 1) x
theorem WalkR.ge {E : Int → List Int} {s : Int} {k : Nat} {x : Int} (h : WalkR E s k x) : s ≤ x := by
  cases h with
  | zero => exact Int.le_refl _
  | succ h _ _ => omega
/-- How far away each is. -/
def IsDist (E : Int → List Int) (s : Int) (d : Int → Option Nat) : Prop := ∀ x k, d x = some k ↔ WalkR E s k x ∧ ∀ j, WalkR E s j x → k ≤ j
theorem IsDist.one {E : Int → List Int} {s : Int} {d d' : Int → Option Nat} (h : IsDist E s d) (h' : IsDist E s d') : d = d' := by
  funext x
  cases hx : d x with
  | some k => exact ((h' x k).2 ((h x k).1 hx)).symm
  | none =>
    cases hx' : d' x with
    | none => rfl
    | some k => rw [(h x k).2 ((h' x k).1 hx')] at hx; cases hx
theorem min_ex {p : Nat → Prop} : ∀ {n : Nat}, p n → ∃ k, p k ∧ ∀ j, p j → k ≤ j := by
  intro n
  induction n using Nat.strongRecOn with
  | _ n ih =>
    intro h
    by_cases e : ∃ m, m < n ∧ p m
    · obtain ⟨m, h1, h2⟩ := e
      exact ih m h1 h2
    · exact ⟨n, h, fun j hj => Nat.le_of_not_lt fun hlt => e ⟨j, hlt, hj⟩⟩
theorem IsDist.ex {E : Int → List Int} {s : Int} {d : Int → Option Nat} (h : IsDist E s d) {x : Int} {n : Nat} (hw : WalkR E s n x) : ∃ k, d x = some k ∧ k ≤ n := by
  obtain ⟨k, h1, h2⟩ := min_ex (p := fun k => WalkR E s k x) hw
  exact ⟨k, (h x k).2 ⟨h1, h2⟩, h2 n hw⟩
/-- What the search knows. -/
structure Knows (E : Int → List Int) (s : Int) (U : List Int) (d : Int → Option Nat) : Prop where
  src : d s = some 0
  sound : ∀ x k, d x = some k → WalkR E s k x
  mem : ∀ x k, d x = some k → x ∈ U
  few : ∀ x k, d x = some k → k + 1 ≤ (U.filter fun u => (d u).isSome).length
def stepD (d : Int → Option Nat) (x : Int) (k : Nat) : Int → Option Nat := fun z => if z = x then some k else d z
def Closed (d : Int → Option Nat) (x y : Int) : Prop := ∀ k, d y = some k → ∃ k', d x = some k' ∧ k' ≤ k + 1
def wgt (U : List Int) (d : Int → Option Nat) : Nat := (U.map fun x => match d x with | some k => k | none => U.length).sum
theorem sum_le {f g : Int → Nat} : ∀ {U : List Int}, (∀ x ∈ U, f x ≤ g x) → (U.map f).sum ≤ (U.map g).sum
  | [], _ => Nat.le_refl _
  | a :: r, h => by
    have h1 := h a List.mem_cons_self
    have h2 := sum_le (U := r) fun x hx => h x (List.mem_cons_of_mem _ hx)
    simp only [List.map_cons, List.sum_cons]; omega
theorem sum_lt {f g : Int → Nat} : ∀ {U : List Int} {x : Int}, (∀ x ∈ U, f x ≤ g x) → x ∈ U → f x < g x → (U.map f).sum < (U.map g).sum
  | [], x, _, h, _ => by cases h
  | a :: r, x, h, hx, hlt => by
    have h1 := h a List.mem_cons_self
    have h3 : ∀ y ∈ r, f y ≤ g y := fun y hy => h y (List.mem_cons_of_mem _ hy)
    simp only [List.map_cons, List.sum_cons]
    rcases List.mem_cons.1 hx with e | hx
    · have h2 := sum_le h3
      subst e; omega
    · have h2 := sum_lt h3 hx hlt
      omega
theorem filt_le {p q : Int → Bool} : ∀ {U : List Int}, (∀ x ∈ U, p x = true → q x = true) → (U.filter p).length ≤ (U.filter q).length
  | [], _ => Nat.le_refl _
  | a :: r, h => by
    have h1 := h a List.mem_cons_self
    have h2 := filt_le (U := r) fun x hx => h x (List.mem_cons_of_mem _ hx)
    rw [List.filter_cons, List.filter_cons]
    cases hp : p a with
    | true => rw [h1 hp, if_pos rfl, if_pos rfl]; simpa using h2
    | false =>
      rw [if_neg (by decide)]
      cases q a with
      | true => rw [if_pos rfl, List.length_cons]; omega
      | false => rw [if_neg (by decide)]; exact h2
theorem filt_lt {p q : Int → Bool} : ∀ {U : List Int} {x : Int}, (∀ x ∈ U, p x = true → q x = true) → x ∈ U → p x = false → q x = true → (U.filter p).length < (U.filter q).length
  | [], x, _, h, _, _ => by cases h
  | a :: r, x, h, hx, h1, h2 => by
    have h3 : ∀ y ∈ r, p y = true → q y = true := fun y hy => h y (List.mem_cons_of_mem _ hy)
    rw [List.filter_cons, List.filter_cons]
    rcases List.mem_cons.1 hx with e | hx
    · subst e
      have := filt_le h3
      rw [h1, h2, if_neg (by decide), if_pos rfl, List.length_cons]; omega
    · have ih := filt_lt h3 hx h1 h2
      cases hp : p a with
      | true => rw [h a List.mem_cons_self hp, if_pos rfl, if_pos rfl, List.length_cons, List.length_cons]; omega
      | false =>
        rw [if_neg (by decide)]
        cases q a with
        | true => rw [if_pos rfl, List.length_cons]; omega
        | false => rw [if_neg (by decide)]; exact ih
section
variable {E : Int → List Int} {s : Int} {U : List Int} {d : Int → Option Nat}
theorem Knows.lt (h : Knows E s U d) {x : Int} {k : Nat} (hx : d x = some k) : k < U.length := by
  have := h.few x k hx
  have := List.length_filter_le (fun u => (d u).isSome) U
  omega
theorem Knows.start (hs : s ∈ U) : Knows E s U (fun z => if z = s then some 0 else none) := by
  refine ⟨if_pos rfl, fun x k h => ?_, fun x k h => ?_, fun x k h => ?_⟩
  · split at h
    · rename_i e; cases h; rw [e]; exact .zero
    · cases h
  · split at h
    · rename_i e; rw [e]; exact hs
    · cases h
  · split at h
    · cases h
      have : s ∈ U.filter fun u => (if u = s then some 0 else none : Option Nat).isSome := List.mem_filter.2 ⟨hs, by simp⟩
      exact List.length_pos_of_mem this
    · cases h
theorem Knows.step (h : Knows E s U d) {x y : Int} {k : Nat} (hx : x ∈ U) (hs : s < x) (hy : y ∈ E x) (hk : d y = some k) (hlt : ∀ k', d x = some k' → k + 1 < k') :
    Knows E s U (stepD d x (k + 1)) ∧ wgt U (stepD d x (k + 1)) < wgt U d := by
  have hmono : ∀ u, (d u).isSome = true → (stepD d x (k + 1) u).isSome = true := fun u hu => by
    unfold stepD; split
    · rfl
    · exact hu
  have hle := filt_le (U := U) (p := fun u => (d u).isSome) (q := fun u => (stepD d x (k + 1) u).isSome) fun u _ => hmono u
  refine ⟨⟨?_, fun z j hz => ?_, fun z j hz => ?_, fun z j hz => ?_⟩, ?_⟩
  · unfold stepD; rw [if_neg (by omega)]; exact h.src
  · unfold stepD at hz
    split at hz
    · rename_i e; cases hz; rw [e]; exact .succ hs hy (h.sound y k hk)
    · exact h.sound z j hz
  · unfold stepD at hz
    split at hz
    · rename_i e; rw [e]; exact hx
    · exact h.mem z j hz
  · unfold stepD at hz
    split at hz
    · cases hz
      cases hd : d x with
      | none =>
        have := filt_lt (U := U) (x := x) (p := fun u => (d u).isSome) (q := fun u => (stepD d x (k + 1) u).isSome) (fun u _ => hmono u) hx (by simp [hd]) (by unfold stepD; simp)
        have := h.few y k hk
        omega
      | some k' =>
        have := hlt k' hd
        have := h.few x k' hd
        omega
    · have := h.few z j hz
      omega
  · unfold wgt
    have hkl := h.lt hk
    have hxk : ∀ k', d x = some k' → k + 1 < k' := hlt
    refine sum_lt (x := x) (fun u hu => ?_) hx ?_
    · unfold stepD
      by_cases e : u = x
      · subst e
        rw [if_pos rfl]
        cases hd : d u with
        | none => exact hkl
        | some k' => have := hxk k' hd; show k + 1 ≤ k'; omega
      · rw [if_neg e]; exact Nat.le_refl _
    · unfold stepD
      rw [if_pos rfl]
      cases hd : d x with
      | none =>
        show k + 1 < U.length
        have h1 := h.few y k hk
        have h2 := filt_lt (U := U) (x := x) (p := fun u => (d u).isSome) (q := fun _ => true) (fun _ _ _ => rfl) hx (by simp [hd]) rfl
        have h3 := List.length_filter_le (fun _ => true) U
        omega
      | some k' => have := hxk k' hd; show k + 1 < k'; omega
/-- Nothing is left to be told. -/
theorem Knows.done (h : Knows E s U d) (hc : ∀ x y, s < x → y ∈ E x → Closed d x y) : IsDist E s d := by
  have key : ∀ j x, WalkR E s j x → ∃ k, d x = some k ∧ k ≤ j := by
    intro j x hw
    induction hw with
    | zero => exact ⟨0, h.src, Nat.le_refl _⟩
    | @succ k x y hs hy _ ih =>
      obtain ⟨k1, h1, h2⟩ := ih
      obtain ⟨k2, h3, h4⟩ := hc x y hs hy k1 h1
      exact ⟨k2, h3, by omega⟩
  intro x k
  constructor
  · intro hx
    refine ⟨h.sound x k hx, fun j hj => ?_⟩
    obtain ⟨k', h1, h2⟩ := key j x hj
    rw [hx] at h1; cases h1; exact h2
  · rintro ⟨h1, h2⟩
    obtain ⟨k', h3, h4⟩ := key k x h1
    have := h2 k' (h.sound x k' h3)
    rw [h3]; congr 1; omega
/-- The nearest one. -/
def bestC (s : Int) (d : Int → Option Nat) (st : Option Int) (y : Int) : Bool :=
  decide (s ≤ y) && ((d y).isSome && (match st with | none => true | some b => decide ((d y).getD 0 < (d b).getD 0)))
def bestS (s : Int) (d : Int → Option Nat) (st : Option Int) (y : Int) : Option Int := if bestC s d st y then some y else st
def bestM (E : Int → List Int) (s : Int) (d : Int → Option Nat) (at_ : Int) : Option Int := (E at_).foldl (bestS s d) none
theorem best_ok : ∀ {l pre : List Int} {st : Option Int}, ((st = none → ∀ y ∈ pre, s ≤ y → d y = none) ∧ ∀ b, st = some b → b ∈ pre ∧ s ≤ b ∧ ∃ k, d b = some k ∧ ∀ y ∈ pre, s ≤ y → ∀ j, d y = some j → k ≤ j) →
    ((l.foldl (bestS s d) st = none → ∀ y ∈ pre ++ l, s ≤ y → d y = none) ∧ ∀ b, l.foldl (bestS s d) st = some b → b ∈ pre ++ l ∧ s ≤ b ∧ ∃ k, d b = some k ∧ ∀ y ∈ pre ++ l, s ≤ y → ∀ j, d y = some j → k ≤ j)
  | [], pre, st, h => by simpa using h
  | a :: r, pre, st, h => by
    have e : pre ++ a :: r = (pre ++ [a]) ++ r := by simp
    rw [e, List.foldl_cons]
    refine best_ok (l := r) (pre := pre ++ [a]) ?_
    unfold bestS bestC
    by_cases hs : s ≤ a
    rotate_left
    · rw [if_neg (by simp [hs])]
      refine ⟨fun hn y hy hsy => ?_, fun b hb => ?_⟩
      · rcases List.mem_append.1 hy with hy | hy
        · exact h.1 hn y hy hsy
        · rw [List.mem_singleton.1 hy] at hsy; exact absurd hsy hs
      · obtain ⟨h1, h2, k, h3, h4⟩ := h.2 b hb
        refine ⟨List.mem_append_left _ h1, h2, k, h3, fun y hy hsy => ?_⟩
        rcases List.mem_append.1 hy with hy | hy
        · exact h4 y hy hsy
        · rw [List.mem_singleton.1 hy] at hsy; exact absurd hsy hs
    cases hd : d a with
    | none =>
      rw [if_neg (by simp)]
      refine ⟨fun hn y hy hsy => ?_, fun b hb => ?_⟩
      · rcases List.mem_append.1 hy with hy | hy
        · exact h.1 hn y hy hsy
        · rw [List.mem_singleton.1 hy]; exact hd
      · obtain ⟨h1, h2, k, h3, h4⟩ := h.2 b hb
        refine ⟨List.mem_append_left _ h1, h2, k, h3, fun y hy hsy j hj => ?_⟩
        rcases List.mem_append.1 hy with hy | hy
        · exact h4 y hy hsy j hj
        · rw [List.mem_singleton.1 hy, hd] at hj; cases hj
    | some ka =>
      have hin : a ∈ pre ++ [a] := by simp
      cases hst : st with
      | none =>
        rw [if_pos (by simp [hs])]
        refine ⟨fun hn => (by cases hn), fun b hb => ?_⟩
        cases hb
        refine ⟨hin, hs, ka, hd, fun y hy hsy j hj => ?_⟩
        rcases List.mem_append.1 hy with hy | hy
        · rw [h.1 hst y hy hsy] at hj; cases hj
        · rw [List.mem_singleton.1 hy, hd] at hj; cases hj; exact Nat.le_refl _
      | some b0 =>
        obtain ⟨h1, h2, k0, h3, h4⟩ := h.2 b0 hst
        by_cases hlt : ka < k0
        · rw [if_pos (by simp [hs, h3, hlt])]
          refine ⟨fun hn => (by cases hn), fun b hb => ?_⟩
          cases hb
          refine ⟨hin, hs, ka, hd, fun y hy hsy j hj => ?_⟩
          rcases List.mem_append.1 hy with hy | hy
          · have := h4 y hy hsy j hj; omega
          · rw [List.mem_singleton.1 hy, hd] at hj; cases hj; exact Nat.le_refl _
        · rw [if_neg (by simp [hs, h3, hlt])]
          refine ⟨fun hn => (by cases hn), fun b hb => ?_⟩
          cases hb
          refine ⟨List.mem_append_left _ h1, h2, k0, h3, fun y hy hsy j hj => ?_⟩
          rcases List.mem_append.1 hy with hy | hy
          · exact h4 y hy hsy j hj
          · rw [List.mem_singleton.1 hy, hd] at hj; cases hj; omega
theorem bestM_ok {at_ : Int} : (bestM E s d at_ = none → ∀ y ∈ E at_, s ≤ y → d y = none) ∧ ∀ b, bestM E s d at_ = some b → b ∈ E at_ ∧ s ≤ b ∧ ∃ k, d b = some k ∧ ∀ y ∈ E at_, s ≤ y → ∀ j, d y = some j → k ≤ j := by
  have := best_ok (s := s) (d := d) (l := E at_) (pre := []) (st := none) ⟨fun _ y hy => (by cases hy), fun b hb => (by cases hb)⟩
  simpa [bestM] using this
/-- The way back. -/
inductive PathR (E : Int → List Int) (s : Int) (d : Int → Option Nat) : Int → List Int → Option (List Int) → Prop
  | no {a : Int} {o : List Int} : bestM E s d a = none → PathR E s d a o none
  | fin {a : Int} {o : List Int} : bestM E s d a = some s → PathR E s d a o (some o)
  | go {a b : Int} {o : List Int} {r : Option (List Int)} : bestM E s d a = some b → b ≠ s → PathR E s d b (o ++ [b]) r → PathR E s d a o r
theorem PathR.one {a : Int} {o : List Int} {r r' : Option (List Int)} (h : PathR E s d a o r) (h' : PathR E s d a o r') : r = r' := by
  induction h with
  | no h1 =>
    cases h' with
    | no => rfl
    | fin h2 => rw [h1] at h2; cases h2
    | go h2 _ _ => rw [h1] at h2; cases h2
  | fin h1 =>
    cases h' with
    | no h2 => rw [h1] at h2; cases h2
    | fin h2 => rfl
    | go h2 h3 _ => rw [h1] at h2; cases h2; exact absurd rfl h3
  | go h1 h2 h3 ih =>
    cases h' with
    | no h4 => rw [h1] at h4; cases h4
    | fin h4 => rw [h1] at h4; cases h4; exact absurd rfl h2
    | go h4 h5 h6 => rw [h1] at h4; cases h4; exact ih h6
def ShortR (E : Int → List Int) (s : Int) (r : Option (List Int)) : Prop := ∃ d, IsDist E s d ∧ PathR E s d s [s] r
theorem ShortR.one {r r' : Option (List Int)} (h : ShortR E s r) (h' : ShortR E s r') : r = r' := by
  obtain ⟨d, h1, h2⟩ := h
  obtain ⟨d', h3, h4⟩ := h'
  cases h1.one h3
  exact h2.one h4
open Classical in
noncomputable def shortF (E : Int → List Int) (s : Int) : Option (List Int) := if h : ∃ r, ShortR E s r then Classical.choose h else none
theorem shortF_eq {r : Option (List Int)} (h : ShortR E s r) : shortF E s = r := by
  unfold shortF
  have hx : ∃ r, ShortR E s r := ⟨r, h⟩
  rw [dif_pos hx]
  exact (Classical.choose_spec hx).one h
/-- Of some circles the first one of the shortest. -/
noncomputable def anS (E : Int → List Int) (st : Option (List Int)) (x : Int) : Option (List Int) := match shortF E x with
  | none => st
  | some c => match st with
    | none => some c
    | some o => if c.length < o.length then some c else some o
noncomputable def anomF (E : Int → List Int) (ks : List Int) : Option (List Int) := ks.foldl (anS E) none
end
end Go.Proofs.Ytibhpoikhkokiaa.Hw

/- Histories: shortest (c38). -/
set_option linter.unusedVariables false
set_option linter.unusedSimpArgs false
set_option maxRecDepth 20000
namespace Go.Proofs.Ytibhpoikhkokiaa.Hw
open Go Go.Proofs
section
variable {H H' : Hp} {Q : Value → Hp → Prop} {m : Nat} {sl : Int → Option Addr × Nat} {E : Int → List Int} {s : Int} {U : List Int}
theorem MapF.lookD {b : Nat} {d : Int → Option Nat} {x : Int} {K : Value → Bool → Prop} (h : MapF H b (fun x => (d x).map natV)) (hk : K (.int .i64 (((d x).getD 0 : Nat) : Int)) (d x).isSome) : lookF H .i64 (some b) x (.int .i64 0) K := by
  refine h.look ?_
  cases hd : d x <;> rw [hd] at hk <;> exact hk
def distV (d : Int → Option Nat) : Int → Option Value := fun x => (d x).map natV
theorem c38 (GA : GraphAt H m sl E) (hs : s ∈ U) (hU : ∀ x y, y ∈ E x → x ∈ U) (hul : U.length < 100000000) (hel : ∀ x, (E x).length < 1000000000) (hq1 : ShortR E s none → ∀ H', Ext H H' → Q (.slice none 0 0) H')
    (hq2 : ∀ o, ShortR E s (some o) → ∀ b c H', Ext H H' → SlAt inC H' (some ⟨b, 0, none⟩) o.length o → o.length ≤ c → Q (.slice (some ⟨b, 0, none⟩) o.length c) H') : HCalls Try.prog 38 [.map (some m), .int .i64 s] H Q := by
  refine f38.ok _ _ ?_
  unfold f38
  refine MapF.new fun m1 H2 hm1 x2 o2 M1 => M1.put fun H3 M3 f3g => ?_
  have x3 : Ext H H3 := fun q o hq' => by
    rw [f3g q fun e => by rw [e, hm1] at hq'; cases hq']
    exact x2 q o hq'
  have M3 : MapF H3 m1 (distV fun z => if z = s then some 0 else none) := M3.congr fun z => by
    show _ = (if z = s then some 0 else none : Option Nat).map natV
    by_cases e : z = s
    · rw [if_pos e, if_pos e]; rfl
    · rw [if_neg e, if_neg e]; rfl
  obtain ⟨kv, hm, hkv0⟩ := GA.map
  have hkv : ∀ k, kvGet kv k = if (E k).isEmpty then none else some (.slice (sl k).1 (E k).length (sl k).2) := hkv0
  have hin : ∀ x y, y ∈ E x → x ∈ kv.map (·.1) := fun x y hy => by
    have hne : (E x).isEmpty = false := by
      cases he : (E x).isEmpty with
      | false => rfl
      | true => rw [List.isEmpty_iff.1 he] at hy; cases hy
    have h1 := hkv x
    rw [hne, if_neg (by decide)] at h1
    exact List.mem_map.2 ⟨_, (kvGet_mem hm.keys).1 h1, rfl⟩
  have hmm : m ≠ m1 := fun e => GA.map.live (e ▸ hm1)
  refine ⟨fun n st H' => ∃ chg d, st = (((chg : Bool), ()), ()) ∧ Ext H H' ∧ MapF H' m1 (distV d) ∧ Knows E s U d ∧ (chg = true → n = wgt U d + 1) ∧ (chg = false → n = 0 ∧ ∀ x y, s < x → y ∈ E x → Closed d x y),
    ⟨_, true, _, rfl, x3, M3, Knows.start hs, fun _ => rfl, fun h => by cases h⟩, ?_⟩
  rintro n st H5 ⟨chg, d, rfl, hx5, M5, K5, hc1, hc2⟩
  dsimp only
  cases chg with
  | true =>
    have hn := hc1 rfl
    refine cndT rfl (range_to (hm.keep (ext_at hx5 GA.map.live)) fun i7 H8 hi7 x8 hI8 f8g => ?_)
    have hi7m : i7 ≠ m := fun e => by have := GA.map.live; rw [← ext_at hx5 this] at this; exact this (e ▸ hi7)
    have hi71 : i7 ≠ m1 := fun e => M5.live (e ▸ hi7)
    have hHi : H i7 = none := hx5.none hi7
    refine ⟨fun n9 st H' => ∃ left chg9 d9, n9 = left.length ∧ st = (((chg9 : Bool), ()), ()) ∧ IterAt .i64 H' i7 m kv left ∧ Ext H H' ∧ MapF H' m1 (distV d9) ∧ Knows E s U d9 ∧ (chg9 = true → wgt U d9 < wgt U d) ∧ (chg9 = false → d9 = d ∧ ∀ x y, s < x → y ∈ E x → x ∉ left → Closed d x y),
      ⟨_, kv.map (·.1), false, d, rfl, rfl, hI8, hx5.trans x8, M5.keep (ext_at x8 M5.live), K5, (fun h => by cases h), fun _ => ⟨rfl, fun x y hsx hy hn => absurd (hin x y hy) hn⟩⟩, ?_⟩
    rintro n9 st H10 ⟨left, chg9, d9, rfl, rfl, hI, hx10, M10, K10, hg1, hg2⟩
    dsimp only
    refine jn_out ?_
    refine next_to hI hi7m (fun hl0 => cndF rfl ⟨rfl, ?_⟩) (fun k u H16 hku hkl hI16 hE f11 => ?_)
    · subst hl0
      cases chg9 with
      | true => exact ⟨wgt U d9 + 1, by have := hg1 rfl; omega, true, d9, rfl, hx10, M10, K10, fun _ => rfl, fun h => by cases h⟩
      | false =>
        obtain ⟨rfl, hcl⟩ := hg2 rfl
        exact ⟨0, by omega, false, d9, rfl, hx10, M10, K10, (fun h => by cases h), fun _ => ⟨rfl, fun x y hsx hy => hcl x y hsx hy (by simp)⟩⟩
    have hu := (kvGet_mem hm.keys).2 hku
    have hne : (E k).isEmpty = false := by
      cases he : (E k).isEmpty with
      | false => rfl
      | true => rw [hkv k, he] at hu; cases hu
    rw [hkv k, hne, if_neg (by decide)] at hu
    cases hu
    have hlt' : (left.filter fun y => decide (y ≠ k)).length < left.length := by
      have h1 := List.length_filter_le (fun y => decide (y ≠ k)) left
      by_cases e : (left.filter fun y => decide (y ≠ k)).length = left.length
      · have := List.length_filter_eq_length_iff.1 e k hkl
        simp at this
      · omega
    have x16 : Ext H H16 := fun q o hq' => (f11 q fun e => by rw [e, hHi] at hq'; cases hq').trans (hx10 q o hq')
    have M16 := M10.keep (f11 m1 hi71.symm)
    have hrow : SlAt inC H (sl k).1 (E k).length (E k) := (GA.row k hne).1
    refine ⟨k, rfl, _, _, _, rfl, cndT rfl (entry_to hE ⟨k, rfl, _, _, _, rfl, ?_⟩)⟩
    have hel' := hel k
    refine loop_to (E k).length (fun i st H' => ∃ chg' d', st = (((chg' : Bool), ((i : Int), ())), ()) ∧ (∀ q, q ≠ m1 → H' q = H16 q) ∧ MapF H' m1 (distV d') ∧ Knows E s U d' ∧ (chg' = true → wgt U d' < wgt U d) ∧ (chg' = false → d' = d ∧ (∀ x y, s < x → y ∈ E x → x ∉ left → Closed d x y) ∧ ∀ y ∈ (E k).take i, s < k → Closed d k y))
      ⟨chg9, d9, rfl, fun _ _ => rfl, M16, K10, hg1, fun h => ⟨(hg2 h).1, (hg2 h).2, fun y hy => by simp at hy⟩⟩ ?_
    rintro i st H25 next hi ⟨chg', d', rfl, f18, M25, K25, h25a, h25b⟩ hnext
    dsimp only
    have x25 : Ext H H25 := fun q o hq' => (f18 q fun e => by rw [e, hm1] at hq'; cases hq').trans (x16 q o hq')
    by_cases h : i < (E k).length
    rotate_left
    · obtain rfl : i = (E k).length := by omega
      refine cndF (decide_eq_false (by omega)) ⟨rfl, _, hlt', _, chg', d', rfl, rfl, hI16.ext (f18 i7 hi71) (f18 m hmm), x25, M25, K25, h25a, fun hc => ?_⟩
      obtain ⟨h1, h2, h3⟩ := h25b hc
      rw [List.take_length] at h3
      refine ⟨h1, fun x y hsx hy hnl => ?_⟩
      by_cases e : x = k
      · subst e; exact h3 y hy hsx
      · exact h2 x y hsx hy fun hl => hnl (List.mem_filter.2 ⟨hl, by simpa using e⟩)
    obtain ⟨y, hy⟩ := get_of h
    have ei : IntKind.i64.wrap ((i : Int) + 1) = ((i + 1 : Nat) : Int) := by rw [wrap_id (by omega) (by omega)]; rfl
    have hyE : y ∈ E k := List.mem_of_getElem? hy
    refine cndT (decide_eq_true (by omega)) (jn_intro (fun J => ∀ chg2 d2 H', (∀ q, q ≠ m1 → H' q = H16 q) → MapF H' m1 (distV d2) → Knows E s U d2 → (chg2 = true → wgt U d2 < wgt U d) → (chg2 = false → d2 = d ∧ (∀ x y, s < x → y ∈ E x → x ∉ left → Closed d x y) ∧ ∀ y ∈ (E k).take (i + 1), s < k → Closed d k y) → J chg2 H') (fun chg2 d2 H' a b c e f => ⟨rfl, hnext _ _ h ⟨chg2, d2, by rw [ei], a, b, c, e, f⟩⟩) fun J hJ => ⟨by omega, by omega, rd_in (hrow.ext x25) hy fun q o _ k1 => ⟨y, by simpa using k1, MapF.lookD M25 ⟨_, rfl, MapF.lookD M25 ⟨_, rfl, ?_⟩⟩⟩⟩)
    refine jn_intro (fun J2 => ∀ cb, cb = (decide (s < k) && ((d' y).isSome && (!(d' k).isSome || decide ((d' y).getD 0 + 1 < (d' k).getD 0)))) → J2 cb) (fun cb hcb => cndI (fun ht => ?_) fun hf => ?_) fun J2 h2 => ?_
    · rw [ht] at hcb
      have hcb := hcb.symm
      simp only [Bool.and_eq_true, decide_eq_true_eq, Bool.or_eq_true, Bool.not_eq_true'] at hcb
      obtain ⟨hsk, hys, hor⟩ := hcb
      cases hdy : d' y with
      | none => rw [hdy] at hys; cases hys
      | some ky =>
      have hkl := K25.lt hdy
      obtain ⟨K2, hw2⟩ := K25.step (x := k) (y := y) (k := ky) (hU k y hyE) hsk hyE hdy (fun k' hk' => by
        rw [hk', hdy] at hor
        simpa using hor)
      have ew : IntKind.i64.wrap ((((some ky).getD 0 : Nat) : Int) + 1) = ((ky + 1 : Nat) : Int) := by
        show IntKind.i64.wrap ((ky : Int) + 1) = _
        rw [wrap_id (by omega) (by omega)]; rfl
      rw [ew]
      refine M25.put fun H37 M37 f8 => hJ true _ H37 (fun q hq' => (f8 q hq').trans (f18 q hq')) (M37.congr (f' := distV (stepD d' k (ky + 1))) fun z => ?_) K2 (fun _ => ?_) (fun h => by cases h)
      · unfold distV stepD
        by_cases e : z = k
        · rw [if_pos e, if_pos e]; rfl
        · rw [if_neg e, if_neg e]
      · cases chg' with
        | true => have := h25a rfl; omega
        | false => obtain ⟨rfl, _⟩ := h25b rfl; exact hw2
    · refine hJ chg' d' H25 f18 M25 K25 h25a fun hc => ?_
      obtain ⟨rfl, h3, h4⟩ := h25b hc
      refine ⟨rfl, h3, fun z hz hsk => ?_⟩
      rw [take_snoc hy] at hz
      rcases List.mem_append.1 hz with hz | hz
      · exact h4 z hz hsk
      · rw [List.mem_singleton.1 hz]
        intro kk hkk
        rw [hf] at hcb
        cases hdk : d' k with
        | none => rw [hkk, hdk] at hcb; simp [hsk] at hcb
        | some k' =>
          refine ⟨k', rfl, ?_⟩
          rw [hkk, hdk] at hcb
          simp [hsk] at hcb
          omega
    · refine cndI (fun h1 => cndI (fun hb => cndI (fun hn => h2 _ ?_) fun hn => h2 _ ?_) fun hb => h2 _ ?_) fun h1 => h2 _ ?_
      · have h1 : s < k := of_decide_eq_true h1
        rw [hb, show (d' k).isSome = false by simpa using hn]; simp [h1]
      · have h1 : s < k := of_decide_eq_true h1
        have hn' : (d' k).isSome = true := by simpa using hn
        cases hdy : d' y with
        | none => rw [hdy] at hb; cases hb
        | some ky =>
        have hkl := K25.lt hdy
        cases hdk : d' k with
        | none => rw [hdk] at hn'; cases hn'
        | some k' =>
        show decide (IntKind.i64.wrap ((ky : Int) + 1) < (k' : Int)) = _
        rw [wrap_id (by omega) (by omega)]
        simp only [h1, decide_true, Option.isSome_some, Bool.true_and, Bool.not_true, Bool.false_or, Option.getD_some]
        rw [Bool.eq_iff_iff, decide_eq_true_eq, decide_eq_true_eq]; omega
      · rw [hb]; simp
      · have h1 : ¬ s < k := of_decide_eq_false h1
        simp [h1]
  | false =>
    obtain ⟨_, hcl⟩ := hc2 rfl
    have hD := K5.done hcl
    refine cndF rfl fun g41 hg41 => ?_
    have x41 : Ext H5 (upd g41 (Obj.cells [Value.int .i64 s].toArray 3 (0, 0)) H5) := Ext.new hg41
    have R41 : Row H5 (upd g41 (Obj.cells [Value.int .i64 s].toArray 3 (0, 0)) H5) (some ⟨g41, 0, none⟩) [s].length 1 1 ([s].flatMap inC) := ⟨rfl, by simp, .inr ⟨g41, [Value.int .i64 s], 3, rfl, upd_at, by simp, rfl, hg41⟩⟩
    refine ⟨fun n st H' => ∃ a out A c, st = ((((A, out.length, c), ((a : Int), ()))), ()) ∧ Ext H5 H' ∧ Row H5 H' A out.length c 1 (out.flatMap inC) ∧ (a = s ∧ n = U.length + 1 ∨ s < a ∧ d a = some n) ∧ (∀ r, PathR E s d a out r → PathR E s d s [s] r) ∧ out.length + n ≤ U.length + 2 ∧ out ≠ [],
      ⟨_, s, [s], _, 1, rfl, x41, R41, .inl ⟨rfl, rfl⟩, fun r h => h, by simp; omega, by simp⟩, ?_⟩
    rintro n st H44 ⟨a, out, A, c, rfl, hx44, R44, han, hpath, hbnd, hne⟩
    dsimp only
    have GA44 := (GA.ext hx5).ext hx44
    have M44 := M5.keep (ext_at hx44 M5.live)
    refine GA44.look fun A48 n48 c30 b48 hA48 _ => ⟨A48, n48, c30, rfl, ?_⟩
    have hel' := hel a
    obtain rfl := hA48.len
    have est : ∀ i, i ≤ (E a).length → True := fun _ _ => trivial
    refine loop_to (E a).length (fun i st H' => H' = H44 ∧ st = ((((((E a).take i).foldl (bestS s d) none).getD 0), (((((E a).take i).foldl (bestS s d) none).isSome), ((i : Int), ()))), ())) ⟨rfl, rfl⟩ ?_
    rintro i st H50 next hi ⟨rfl, rfl⟩ hnext
    dsimp only
    by_cases h : i < (E a).length
    · obtain ⟨y, hy⟩ := get_of h
      have ei : IntKind.i64.wrap ((i : Int) + 1) = ((i + 1 : Nat) : Int) := by rw [wrap_id (by omega) (by omega)]; rfl
      have etk : ((E a).take (i + 1)).foldl (bestS s d) none = bestS s d (((E a).take i).foldl (bestS s d) none) y := by rw [take_snoc hy, List.foldl_append]; rfl
      generalize hst : ((E a).take i).foldl (bestS s d) none = st0 at hnext etk ⊢
      have hb0 : ∀ b, st0 = some b → (d b).isSome = true := fun b hb => by
        have := (best_ok (s := s) (d := d) (l := (E a).take i) (pre := []) (st := none) ⟨fun _ y hy => (by cases hy), fun b hb => (by cases hb)⟩).2 b (hst.trans hb)
        obtain ⟨_, _, k, hk, _⟩ := this
        rw [hk]; rfl
      refine cndT (decide_eq_true (by omega)) (jn_intro (fun J => J ((bestS s d st0 y).getD 0) ((bestS s d st0 y).isSome)) ⟨rfl, hnext _ _ h ⟨rfl, by rw [ei, etk]⟩⟩ fun J hJ => ⟨by omega, by omega, rd_in hA48 hy fun q o _ k1 => ⟨y, by simpa using k1, MapF.lookD M44 ⟨_, rfl, ?_⟩⟩⟩)
      unfold bestS at hJ
      refine jn_intro (fun J2 => ∀ cb, cb = bestC s d st0 y → J2 cb) (fun cb hcb => cndI (fun ht => ?_) fun hf => ?_) fun J2 h2 => ?_
      · rw [← hcb, ht, if_pos rfl] at hJ; exact hJ
      · rw [← hcb, hf, if_neg (by decide)] at hJ; exact hJ
      · refine cndI (fun h1 => cndI (fun hb => cndI (fun hn => h2 _ ?_) fun hn => MapF.lookD M44 ⟨_, rfl, h2 _ ?_⟩) fun hb => h2 _ ?_) fun h1 => h2 _ ?_ <;> unfold bestC
        · have h1 : s ≤ y := of_decide_eq_true h1
          cases st0 with
          | none => rw [hb]; simp [h1]
          | some b => cases hn
        · have h1 : s ≤ y := of_decide_eq_true h1
          cases st0 with
          | none => cases hn
          | some b =>
            rw [hb]
            simp only [h1, decide_true, Bool.true_and, Option.getD_some]
            rw [Bool.eq_iff_iff, decide_eq_true_eq, decide_eq_true_eq]; omega
        · rw [hb]; simp
        · have h1 : ¬ s ≤ y := of_decide_eq_false h1
          simp [h1]
    · obtain rfl : i = (E a).length := by omega
      rw [List.take_length]
      refine cndF (decide_eq_false (by omega)) ?_
      have hbm : (E a).foldl (bestS s d) none = bestM E s d a := rfl
      rw [hbm]
      cases hb : bestM E s d a with
      | none => exact cndT rfl (hq1 ⟨d, hD, hpath none (.no hb)⟩ H50 (hx5.trans hx44))
      | some b =>
        refine cndF rfl ?_
        show cnd (b == s) _ _
        have hln : 0 < out.length := List.length_pos_iff.2 hne
        refine cndI (fun he => ?_) fun he => ?_
        · have he : b = s := by simpa using he
          subst he
          obtain ⟨r1, r2, ⟨r3, r4⟩ | ⟨bb, cs, ty, rfl, r3, r4, r5, r6⟩⟩ := R44
          · omega
          · exact hq2 out ⟨d, hD, hpath _ (.fin hb)⟩ bb c H50 (hx5.trans hx44) ⟨rfl, Row.cells ⟨r1, r2, .inr ⟨bb, cs, ty, rfl, r3, r4, r5, r6⟩⟩, by unfold huge; omega⟩ r2
        · have he : b ≠ s := by simpa using he
          obtain ⟨hbE, hsb, kb, hkb, hmin⟩ := bestM_ok.2 b hb
          have hsb' : s < b := by omega
          have hkbl := K5.lt hkb
          have hdec : kb < n := by
            rcases han with ⟨rfl, rfl⟩ | ⟨hsa, hda⟩
            · omega
            · have hw := ((hD a n).1 hda).1
              cases hw with
              | zero => omega
              | @succ k x y h1 h2 h3 =>
                obtain ⟨k3, h4, h5⟩ := hD.ex h3
                have := hmin y h2 h3.ge k3 h4
                omega
          intro g65 hg65
          refine Row.push1 (w := b) (f := inC) (k := 1) (ty := 3) (fun _ => rfl) (fun x v hv => by obtain rfl := List.mem_singleton.1 hv; rfl) (by omega) R44 hx44 (by unfold big; omega) hg65 fun A2 c2 H68 R2 x68 _ _ => ⟨rfl, kb, hdec, b, out ++ [b], A2, c2, rfl, x68, R2, .inr ⟨hsb', hkb⟩, fun r hr => hpath r (.go hb he hr), ?_, by simp⟩
          rw [List.length_append, List.length_singleton]; omega
end
end Go.Proofs.Ytibhpoikhkokiaa.Hw

/- Histories: Anomaly and Only. -/
set_option linter.unusedVariables false
set_option linter.unusedSimpArgs false
set_option maxRecDepth 20000
namespace Go.Proofs.Ytibhpoikhkokiaa.Hw
open Go Go.Proofs
def AnomQ (H : Hp) (Q : Value → Hp → Prop) (l : List Ev) : Prop :=
  (validM l = false → ∀ H', Ext H H' → Q (.tuple #[.slice none 0 0, .int .i64 2]) H') ∧
  (validM l = true → ∀ rs E ks, ArcsOf l rs → GraphOf rs wA E → Strict ks → (∀ x, x ∈ ks ↔ (E x).isEmpty = false) →
    (anomF E ks = none → ∀ H', Ext H H' → Q (.tuple #[.slice none 0 0, .int .i64 4]) H') ∧
    ∀ o, anomF E ks = some o → ∀ b c H', Ext H H' → SlAt inC H' (some ⟨b, 0, none⟩) o.length o → o.length ≤ c → Q (.tuple #[.slice (some ⟨b, 0, none⟩) o.length c, .int .i64 0]) H')
theorem mem_arc1 {l : List Ev} {a b k i : Int} {x : Arc} : x ∈ arc1 l a b k i ↔ x = ⟨a, b, k, i⟩ ∧ a ≠ b ∧ comB l a = true ∧ comB l b = true := by
  unfold arc1
  cases ha : comB l a <;> cases hb : comB l b <;> by_cases e : a = b <;> simp [ha, hb, e]
/-- An arc, word by word. -/
def ArcIs (l : List Ev) (x : Arc) : Prop := x.a ≠ x.b ∧ comB l x.a = true ∧ comB l x.b = true ∧
  ((x.kind = 1 ∧ ∃ j : Nat, (versM l x.item)[j]? = some x.a ∧ (versM l x.item)[j + 1]? = some x.b) ∨
   (x.kind = 2 ∧ ∃ (i : Nat) (e : Ev), l[i]? = some e ∧ e.op = 2 ∧ natOr (lastW l e.frm e.item) < i ∧ x.a = e.frm ∧ x.b = e.txn ∧ x.item = e.item) ∨
   (x.kind = 3 ∧ ∃ (i : Nat) (e : Ev), l[i]? = some e ∧ e.op = 2 ∧ (e.frm = 0 ∨ comB l e.frm = true) ∧ x.a = e.txn ∧ x.b = nextM l e.item e.frm ∧ x.item = e.item))
theorem arc_iff {l : List Ev} {x : Arc} : IsArc l x ↔ ArcIs l x := by
  unfold IsArc ArcIs
  constructor
  · rintro (⟨k, hk⟩ | hr)
    · unfold wwTo at hk
      obtain ⟨j, hj, hx⟩ := List.mem_flatMap.1 hk
      unfold wwAt at hx
      split at hx
      · rename_i a b ha hb
        obtain ⟨rfl, h1, h2, h3⟩ := mem_arc1.1 hx
        exact ⟨h1, h2, h3, .inl ⟨rfl, j, ha, hb⟩⟩
      · cases hx
    · unfold rdTo at hr
      obtain ⟨i, hi, hx⟩ := List.mem_flatMap.1 hr
      unfold rdOf at hx
      cases he : l[i]? with
      | none => rw [he] at hx; cases hx
      | some e =>
        rw [he] at hx
        by_cases ho : e.op = 2
        · simp only [ho, beq_self_eq_true, if_true] at hx
          rcases List.mem_append.1 hx with hx | hx
          · split at hx
            · rename_i hlt
              obtain ⟨rfl, h1, h2, h3⟩ := mem_arc1.1 hx
              exact ⟨h1, h2, h3, .inr (.inl ⟨rfl, i, e, he, ho, hlt, rfl, rfl, rfl⟩)⟩
            · cases hx
          · split at hx
            · rename_i hc
              obtain ⟨rfl, h1, h2, h3⟩ := mem_arc1.1 hx
              refine ⟨h1, h2, h3, .inr (.inr ⟨rfl, i, e, he, ho, ?_, rfl, rfl, rfl⟩)⟩
              rw [Bool.or_eq_true] at hc
              exact hc.imp (fun h => by simpa using h) id
            · cases hx
        · simp only [show (e.op == 2) = false by simpa using ho] at hx
          cases hx
  · rintro ⟨h1, h2, h3, ⟨hk, j, ha, hb⟩ | ⟨hk, i, e, he, ho, hlt, ha, hb, hi⟩ | ⟨hk, i, e, he, ho, hc, ha, hb, hi⟩⟩
    · refine .inl ⟨x.item, ?_⟩
      unfold wwTo
      have hl := (List.getElem?_eq_some_iff.1 hb).1
      refine List.mem_flatMap.2 ⟨j, List.mem_range.2 (by omega), ?_⟩
      unfold wwAt
      rw [ha, hb]
      refine mem_arc1.2 ⟨?_, h1, h2, h3⟩
      cases x; simp only at hk; subst hk; rfl
    · refine .inr ?_
      unfold rdTo
      refine List.mem_flatMap.2 ⟨i, List.mem_range.2 (List.getElem?_eq_some_iff.1 he).1, ?_⟩
      unfold rdOf
      simp only [he, ho, beq_self_eq_true, if_true]
      refine List.mem_append_left _ ?_
      rw [if_pos hlt]
      refine mem_arc1.2 ⟨?_, by rw [← ha, ← hb]; exact h1, by rw [← ha]; exact h2, by rw [← hb]; exact h3⟩
      cases x; simp only at hk ha hb hi; subst hk ha hb hi; rfl
    · refine .inr ?_
      unfold rdTo
      refine List.mem_flatMap.2 ⟨i, List.mem_range.2 (List.getElem?_eq_some_iff.1 he).1, ?_⟩
      unfold rdOf
      simp only [he, ho, beq_self_eq_true, if_true]
      refine List.mem_append_right _ ?_
      rw [if_pos (by rcases hc with hc | hc <;> simp [hc])]
      refine mem_arc1.2 ⟨?_, by rw [← ha, ← hb]; exact h1, by rw [← ha]; exact h2, by rw [← hb]; exact h3⟩
      cases x; simp only at hk ha hb hi; subst hk ha hb hi; rfl
/-- A circle, if there is one. -/
def AnAt (H : Hp) (A : Option Addr) (n c : Nat) : Option (List Int) → Prop
  | none => A = none ∧ n = 0 ∧ c = 0
  | some o => ∃ b, A = some ⟨b, 0, none⟩ ∧ n = o.length ∧ SlAt inC H (some ⟨b, 0, none⟩) o.length o ∧ o.length ≤ c
theorem AnAt.ext {H H' : Hp} {A : Option Addr} {n c : Nat} {st : Option (List Int)} (h : AnAt H A n c st) (hx : Ext H H') : AnAt H' A n c st := by
  cases st with
  | none => exact h
  | some o =>
    obtain ⟨b, h1, h2, h3, h4⟩ := h
    exact ⟨b, h1, h2, h3.ext hx, h4⟩
section
variable {H H' : Hp} {Q : Value → Hp → Prop} {A : Option Addr} {n cp : Nat} {l : List Ev}
theorem c15 (hA : SlAt evC H A n l) (hcp : n ≤ cp) (hq : AnomQ H Q l) : HCalls Try.prog 15 [.slice A n cp] H Q := by
  refine f15.ok _ _ _ ?_
  unfold f15
  obtain ⟨q1, q2⟩ := hq
  refine c13 hA fun H2 x2 => ⟨_, rfl, ?_⟩
  cases hv : validM l with
  | false => exact cndT rfl (q1 hv H2 x2)
  | true =>
  obtain ⟨hok, hlen⟩ := valid_ok hv
  refine cndF rfl (c19 (hA.ext x2) hcp hok hlen fun g c b v w sl H5 x5 B => ⟨_, rfl, c21 B hlen fun rs A9 c9g H8 ha hl x8 R9 => ⟨_, _, _, rfl, ?_⟩⟩)
  have hsl : SlAt arC H8 A9 rs.length rs := ⟨rfl, R9.cells, by unfold huge; omega⟩
  refine c27 (want := wA) hsl (fnOk 36 rfl) (fun k H' Q' hQ' => ?_) (by omega) fun m sl2 E H11 G GA x11 _ => ⟨_, rfl, c37 fun g14 H14 hg14 hH14 => ⟨_, _, _, rfl, ?_⟩⟩
  · refine f36.ok _ ?_
    unfold f36; exact hQ'
  obtain ⟨kv, hm, hkv0⟩ := GA.map
  have hkv : ∀ k, kvGet kv k = if (E k).isEmpty then none else some (.slice (sl2 k).1 (E k).length (sl2 k).2) := hkv0
  have hkeys : ∀ k, k ∈ kv.map (·.1) ↔ (E k).isEmpty = false := fun k => by
    have h1 := hkv k
    constructor
    · intro hk
      obtain ⟨p, hp, rfl⟩ := List.mem_map.1 hk
      rw [(kvGet_mem hm.keys).2 hp] at h1
      cases he : (E p.1).isEmpty with
      | false => rfl
      | true => rw [he] at h1; cases h1
    · intro he
      rw [he, if_neg (by decide)] at h1
      exact List.mem_map.2 ⟨_, (kvGet_mem hm.keys).1 h1, rfl⟩
  have hea : ∀ x y, y ∈ E x → ∃ a ∈ rs, a.a = x := fun x y hy => by
    obtain ⟨a, h1, h2, _⟩ := ((G x).2 y).1 hy
    exact ⟨a, h1, h2⟩
  have hkin : ∀ x ∈ kv.map (·.1), comB l x = true ∧ x ∈ rs.map (·.a) := fun x hx => by
    have he := (hkeys x).1 hx
    cases hE : E x with
    | nil => rw [hE] at he; cases he
    | cons y r =>
      obtain ⟨a, h1, rfl⟩ := hea x y (by rw [hE]; exact List.mem_cons_self)
      exact ⟨(arc_iff.1 ((ha.2 a).1 h1)).2.1, List.mem_map_of_mem h1⟩
  have x014 : Ext H11 H14 := by rw [hH14]; exact Ext.new hg14
  have hkvl : kv.length ≤ 2000 := by
    have h1 := nodup_len (m := comL l) hm.keys fun x hx => comL_mem.2 (hkin x hx).1
    have := comL_len (l := l)
    rw [List.length_map] at h1
    omega
  refine c22a (m := m) (ty := 74) (kv := kv) (by rw [hH14]; exact upd_at) (hm.keep (ext_at x014 GA.map.live)) (fun x hx => ?_) (by omega) fun H17 A18 c14 R18 x17 => ⟨_, _, _, rfl, ?_⟩
  · have := com_in hok (hkin x hx).1
    omega
  have hks : Strict (sortM (kv.map (·.1))) := strict_sort hm.keys
  have hkm : ∀ x, x ∈ sortM (kv.map (·.1)) ↔ (E x).isEmpty = false := fun x => sortM_mem.trans (hkeys x)
  have hksl : (sortM (kv.map (·.1))).length = kv.length := by unfold sortM; rw [List.length_mergeSort, List.length_map]
  have hkm2 : ∀ x ∈ sortM (kv.map (·.1)), x ∈ kv.map (·.1) := fun x hx => sortM_mem.1 hx
  generalize hks0 : sortM (kv.map (·.1)) = ks at R18 hks hkm hksl hkm2
  obtain ⟨q3, q4⟩ := q2 hv rs E ks ha G hks hkm
  have hx17 : Ext H H17 := ((((x2.trans x5).trans x8).trans x11).trans x014).trans x17
  have hsl18 : SlAt inC H17 A18 ks.length ks := ⟨rfl, R18.cells, by unfold huge; omega⟩
  rw [← hksl]
  refine loop_to ks.length (fun i st H' => ∃ A n c, st = (((A, n, c), ((i : Int), ())), ()) ∧ Ext H17 H' ∧ AnAt H' A n c ((ks.take i).foldl (anS E) none)) ⟨none, 0, 0, rfl, Ext.refl _, rfl, rfl, rfl⟩ ?_
  rintro i st H20 next hi ⟨A1, n1, c1, rfl, hx20, hAn⟩ hnext
  dsimp only
  by_cases h : i < ks.length
  · obtain ⟨x, hx⟩ := get_of h
    have ei : IntKind.i64.wrap ((i : Int) + 1) = ((i + 1 : Nat) : Int) := by rw [wrap_id (by omega) (by omega)]; rfl
    have etk : (ks.take (i + 1)).foldl (anS E) none = anS E ((ks.take i).foldl (anS E) none) x := by rw [take_snoc hx, List.foldl_append]; rfl
    generalize hst : (ks.take i).foldl (anS E) none = st0 at hAn etk
    have hxr := (hkin x (hkm2 x (List.mem_of_getElem? hx))).2
    refine cndT (decide_eq_true (by omega)) (jn_intro (fun J => ∀ A2 n2 c2 H', Ext H20 H' → AnAt H' A2 n2 c2 (anS E st0 x) → J A2 n2 c2 H') (fun A2 n2 c2 H' a b => ⟨rfl, hnext _ _ h ⟨A2, n2, c2, by rw [ei], hx20.trans a, by rw [etk]; exact b⟩⟩) fun J hJ => ⟨by omega, by omega, rd_in (hsl18.ext hx20) hx fun q o _ k1 => ⟨x, by simpa using k1, ?_⟩⟩)
    refine c38 (U := rs.map (·.a)) ((GA.ext (x014.trans x17)).ext hx20) hxr (fun a y hy => ?_) (by rw [List.length_map]; omega) (fun z => Nat.lt_of_le_of_lt (graph_len G z) (by omega)) (fun hs H25 x25 => ⟨_, _, _, rfl, ?_⟩) fun o hs b25 c18 H25 x25 hO hOc => ⟨_, _, _, rfl, ?_⟩
    · obtain ⟨z, h1, rfl⟩ := hea a y hy
      exact List.mem_map_of_mem h1
    · have he : anS E st0 x = st0 := by unfold anS; rw [shortF_eq hs]
      refine jn_intro (fun J2 => J2 false) ?_ fun J2 h2 => cndF rfl h2
      exact cndF rfl (hJ _ _ _ H25 x25 (by rw [he]; exact hAn.ext x25))
    · refine jn_intro (fun J2 => ∀ bb, bb = (match st0 with | none => true | some o0 => decide (o.length < o0.length)) → J2 bb) (fun bb hbb => cndI (fun ht => ?_) fun hf => ?_) fun J2 h2 => ?_
      · have he : anS E st0 x = some o := by
          unfold anS
          rw [shortF_eq hs]
          cases st0 with
          | none => rfl
          | some o0 =>
            have : o.length < o0.length := by simpa using (hbb.symm.trans ht)
            show (if o.length < o0.length then some o else some o0) = some o
            rw [if_pos this]
        exact hJ _ _ _ H25 x25 (by rw [he]; exact ⟨b25, rfl, rfl, hO, hOc⟩)
      · have he : anS E st0 x = st0 := by
          unfold anS
          rw [shortF_eq hs]
          cases st0 with
          | none => cases hbb.symm.trans hf
          | some o0 =>
            have : ¬ o.length < o0.length := by simpa using (hbb.symm.trans hf)
            show (if o.length < o0.length then some o else some o0) = some o0
            rw [if_neg this]
        exact hJ _ _ _ H25 x25 (by rw [he]; exact hAn.ext x25)
      · refine cndT rfl (cndI (fun hn => h2 _ ?_) fun hn => h2 _ ?_)
        · cases st0 with
          | none => rfl
          | some o0 =>
            obtain ⟨b, rfl, _⟩ := hAn
            cases hn
        · cases st0 with
          | none =>
            obtain ⟨rfl, _⟩ := hAn
            cases hn
          | some o0 =>
            obtain ⟨b, _, rfl, _⟩ := hAn
            rw [Bool.eq_iff_iff, decide_eq_true_eq, decide_eq_true_eq]; omega
  · obtain rfl : i = ks.length := by omega
    rw [List.take_length] at hAn
    have hfold : ks.foldl (anS E) none = anomF E ks := rfl
    rw [hfold] at hAn
    refine cndF (decide_eq_false (by omega)) ?_
    cases ho : anomF E ks with
    | none =>
      rw [ho] at hAn
      obtain ⟨rfl, rfl, rfl⟩ := hAn
      exact cndT rfl (q3 ho H20 (hx17.trans hx20))
    | some o =>
      rw [ho] at hAn
      obtain ⟨b, rfl, rfl, h1, h2⟩ := hAn
      exact cndF rfl (q4 o ho b c1 H20 (hx17.trans hx20) h1 h2)
/-! ### Only -/
theorem evC_len (x : Ev) : (evC x).length = 5 := rfl
theorem evC_one (x : Ev) : ∀ v ∈ evC x, v.oneCell' = true := fun v hv => by
  unfold evC at hv
  simp only [List.mem_cons, List.not_mem_nil, or_false] at hv
  rcases hv with rfl | rfl | rfl | rfl | rfl <;> rfl
def onlyS (T : List Int) (x : Ev) : List Ev := if T.any (fun y => x.txn == y) then [⟨x.op, x.txn, x.item, if (x.frm != 0) && !T.any (fun y => x.frm == y) then 0 else x.frm, x.stmt⟩] else []
def onlyM (l : List Ev) (T : List Int) : List Ev := l.flatMap (onlyS T)
def OnlyQ (H : Hp) (Q : Value → Hp → Prop) (l : List Ev) (T : List Int) : Prop :=
  (validM l = false → ∀ H', Ext H H' → Q (.tuple #[.slice none 0 0, .int .i64 2]) H') ∧
  (validM l = true → ∀ A c H', Ext H H' → SlAt evC H' A (onlyM l T).length (onlyM l T) → (onlyM l T).length ≤ c → Q (.tuple #[.slice A (onlyM l T).length c, .int .i64 0]) H')
theorem onlyS_len {T : List Int} {x : Ev} : (onlyS T x).length ≤ 1 := by unfold onlyS; split <;> simp
theorem onlyM_len {T : List Int} : ∀ {l : List Ev}, (onlyM l T).length ≤ l.length
  | [] => Nat.le_refl _
  | x :: r => by
    have h1 := onlyS_len (T := T) (x := x)
    have h2 := onlyM_len (T := T) (l := r)
    unfold onlyM at h2 ⊢
    rw [List.flatMap_cons, List.length_append, List.length_cons]; omega
theorem c17 {S : Option Addr} {ns cs : Nat} {T : List Int} (hA : SlAt evC H A n l) (hcp : n ≤ cp) (hS : SlAt inC H S ns T) (hq : OnlyQ H Q l T) : HCalls Try.prog 17 [.slice A n cp, .slice S ns cs] H Q := by
  refine f17.ok _ _ _ _ _ _ ?_
  unfold f17
  obtain ⟨q1, q2⟩ := hq
  refine c13 hA fun H2 x2 => ⟨_, rfl, ?_⟩
  cases hv : validM l with
  | false => exact cndT rfl (q1 hv H2 x2)
  | true =>
  obtain ⟨hok, hlen⟩ := valid_ok hv
  obtain rfl := hA.len
  refine cndF rfl (loop_to l.length (fun i st H' => ∃ A1 c1, st = (((A1, (onlyM (l.take i) T).length, c1), ((i : Int), ())), ()) ∧ Ext H2 H' ∧ Row H2 H' A1 (onlyM (l.take i) T).length c1 5 ((onlyM (l.take i) T).flatMap evC)) ⟨none, 0, rfl, Ext.refl _, Row.nil⟩ ?_)
  rintro i st H5 next hi ⟨A1, c1, rfl, hx5, R⟩ hnext
  dsimp only
  by_cases h : i < l.length
  · obtain ⟨x, hx⟩ := get_of h
    have ei : IntKind.i64.wrap ((i : Int) + 1) = ((i + 1 : Nat) : Int) := by rw [wrap_id (by omega) (by omega)]; rfl
    have etk : onlyM (l.take (i + 1)) T = onlyM (l.take i) T ++ onlyS T x := by unfold onlyM; rw [take_snoc hx, List.flatMap_append]; simp
    have hol : (onlyM (l.take i) T).length ≤ i := by
      have := onlyM_len (T := T) (l := l.take i)
      rw [List.length_take] at this; omega
    refine cndT (decide_eq_true (by omega)) (jn_intro (fun J => ∀ A2 c2 H', Ext H2 H' → Row H2 H' A2 (onlyM (l.take (i + 1)) T).length c2 5 ((onlyM (l.take (i + 1)) T).flatMap evC) → J A2 (onlyM (l.take (i + 1)) T).length c2 H') (fun A2 c2 H' a b => ⟨rfl, hnext _ _ h ⟨A2, c2, by rw [ei], a, b⟩⟩) fun J hJ => ⟨by omega, by omega, rd_ev (hA.ext (x2.trans hx5)) hx fun q o _ k1 k2 k3 k4 k5 => ⟨x.op, by simpa using k1, x.txn, by simpa using k2, x.item, by simpa using k3, x.frm, by simpa using k4, x.stmt, by simpa using k5, ?_⟩⟩)
    rw [etk] at hJ
    refine c40 ((hS.ext x2).ext hx5) ⟨_, rfl, cndI (fun hn => ?_) fun hn => ?_⟩
    · have hn : (T.any fun y => x.txn == y) = false := Bool.not_eq_true' _ ▸ hn
      have he : onlyS T x = [] := by unfold onlyS; rw [if_neg (by rw [hn]; decide)]
      rw [he, List.append_nil] at hJ
      exact hJ A1 c1 H5 hx5 R
    · have hn : (T.any fun y => x.txn == y) = true := not_f (by rw [← hn])
      refine jn_intro (fun J2 => ∀ fr, fr = (if (x.frm != 0) && !T.any (fun y => x.frm == y) then 0 else x.frm) → J2 fr H5) (fun fr hfr g25 hg25 => ?_) fun J2 h2 => jn_intro (fun J3 => ∀ bb, bb = ((x.frm != 0) && !T.any (fun y => x.frm == y)) → J3 bb H5) (fun bb hbb => cndI (fun ht => h2 0 (by rw [← hbb, ht]; rfl)) fun hf => h2 x.frm (by rw [← hbb, hf]; rfl)) fun J3 h3 => cndI (fun h0 => c40 ((hS.ext x2).ext hx5) ⟨_, rfl, h3 _ (by rw [h0]; rfl)⟩) fun h0 => h3 _ (by rw [h0]; rfl)
      have he : onlyS T x = [⟨x.op, x.txn, x.item, fr, x.stmt⟩] := by unfold onlyS; rw [if_pos hn, hfr]
      rw [he] at hJ
      exact Row.push1 (w := (⟨x.op, x.txn, x.item, fr, x.stmt⟩ : Ev)) (f := evC) (k := 5) (ty := 29) evC_len evC_one (by omega) R hx5 (by unfold big; omega) hg25 fun A2 c2 H28 R2 x28 _ _ => hJ A2 c2 H28 x28 R2
  · obtain rfl : i = l.length := by omega
    rw [List.take_length] at R ⊢
    have := onlyM_len (T := T) (l := l)
    exact cndF (decide_eq_false (by omega)) (q2 hv A1 c1 H5 (x2.trans hx5) ⟨rfl, R.cells, by unfold huge; omega⟩ R.2.1)
end
end Go.Proofs.Ytibhpoikhkokiaa.Hw

/- Histories: what the fixed calls give. -/
set_option linter.unusedVariables false
set_option linter.unusedSimpArgs false
set_option maxRecDepth 20000
namespace Go.Proofs.Ytibhpoikhkokiaa.Hw
open Go Go.Proofs
def lostL : List Ev := [⟨1, 1, 0, 0, 0⟩, ⟨1, 2, 0, 0, 0⟩, ⟨2, 1, 1, 0, 1⟩, ⟨2, 2, 1, 0, 1⟩, ⟨3, 1, 1, 0, 2⟩, ⟨4, 1, 0, 0, 0⟩, ⟨3, 2, 1, 0, 2⟩, ⟨4, 2, 0, 0, 0⟩]
def oneL : List Ev := [⟨1, 2, 0, 0, 0⟩, ⟨2, 2, 1, 0, 1⟩, ⟨3, 2, 1, 0, 1⟩, ⟨4, 2, 0, 0, 0⟩, ⟨1, 1, 0, 0, 0⟩, ⟨2, 1, 1, 2, 1⟩, ⟨4, 1, 0, 0, 0⟩]
def badL : List Ev := [⟨1, 0, 0, 0, 0⟩]
theorem lost_valid : validM lostL = true := by kernel_rfl
theorem one_valid : validM oneL = true := by kernel_rfl
theorem bad_valid : validM badL = false := by kernel_rfl
theorem lost_ab : abTo lostL 8 = false := by kernel_rfl
theorem lost_bt : btTo lostL 8 = false := by kernel_rfl
theorem one_ab : abTo oneL 7 = false := by kernel_rfl
theorem one_bt : btTo oneL 7 = false := by kernel_rfl
theorem lost_serial : fitsM lostL all200 = false := by kernel_rfl
theorem lost_com : fitsM lostL [] = true := by kernel_rfl
theorem one_fits : fitsM oneL [1, 2] = true := by kernel_rfl
/-- All arcs, in some order. -/
def arcL (l : List Ev) : List Arc := (l.map (·.item)).flatMap (fun k => wwTo l k ((versM l k).length - 1)) ++ rdTo l l.length
theorem mem_arcL {l : List Ev} {x : Arc} : IsArc l x ↔ x ∈ arcL l := by
  unfold IsArc arcL
  rw [List.mem_append]
  refine or_congr_left ?_
  rw [List.mem_flatMap]
  constructor
  · rintro ⟨k, hk⟩
    refine ⟨k, vers_item (?_ : (versM l k).isEmpty = false), hk⟩
    cases he : (versM l k).isEmpty with
    | false => rfl
    | true => rw [List.isEmpty_iff.1 he] at hk; simp [wwTo] at hk
  · rintro ⟨k, _, hk⟩
    exact ⟨k, hk⟩
theorem arcs_by {l : List Ev} {rs : List Arc} (h : rs.Pairwise ltA) (h1 : ((arcL l).all (fun x => rs.contains x) && rs.all (fun x => (arcL l).contains x)) = true) : ArcsOf l rs := by
  rw [Bool.and_eq_true, List.all_eq_true, List.all_eq_true] at h1
  exact ⟨h, fun x => by rw [mem_arcL]; exact ⟨fun hx => List.contains_iff_mem.1 (h1.2 x hx), fun hx => List.contains_iff_mem.1 (h1.1 x hx)⟩⟩
def lostA : List Arc := [⟨1, 2, 1, 1⟩, ⟨2, 1, 3, 1⟩]
def oneA : List Arc := [⟨2, 1, 2, 1⟩]
theorem lost_arcs : ArcsOf lostL lostA := arcs_by (by unfold lostA ltA; simp) (by kernel_rfl)
theorem one_arcs : ArcsOf oneL oneA := arcs_by (by unfold oneA; simp) (by kernel_rfl)
/-- What stays in a set of places. -/
theorem reach_in {rs : List Arc} {want : Int → Bool} {s y : Int} {S : Int → Prop} (h0 : S s) (hc : ∀ x ∈ rs, want x.kind = true → S x.a → S x.b) (h : ReachR rs want s y) : S y := by
  induction h with
  | refl => exact h0
  | step _ hx hw ih => exact hc _ hx hw ih
theorem lost_mem {x : Arc} : x ∈ lostA ↔ x = ⟨1, 2, 1, 1⟩ ∨ x = ⟨2, 1, 3, 1⟩ := by unfold lostA; simp
theorem lost_c1 : circB lostA 1 wW = false := by
  rw [← Bool.not_eq_true, circB_iff]
  rintro ⟨x, hx, hk, hr⟩
  have := reach_in (S := fun z => z = 2) ?_ (fun y hy hw he => ?_) hr
  · rcases lost_mem.1 hx with rfl | rfl
    · exact absurd this (by decide)
    · exact absurd hk (by decide)
  · rcases lost_mem.1 hx with rfl | rfl
    · rfl
    · exact absurd hk (by decide)
  · rcases lost_mem.1 hy with rfl | rfl
    · rfl
    · exact absurd hw (by decide)
theorem lost_c2 : circB lostA 2 wP = false := by
  rw [← Bool.not_eq_true, circB_iff]
  rintro ⟨x, hx, hk, hr⟩
  rcases lost_mem.1 hx with rfl | rfl <;> exact absurd hk (by decide)
theorem lost_c3 : circB lostA 3 wP = true := by
  rw [circB_iff]
  refine ⟨⟨2, 1, 3, 1⟩, lost_mem.2 (.inr rfl), rfl, ?_⟩
  have h1 : ReachR lostA wP 1 1 := .refl
  exact .step (x := ⟨1, 2, 1, 1⟩) h1 (lost_mem.2 (.inl rfl)) rfl
theorem lost_faults : faultsF lostL lostA = [sRw] := by
  unfold faultsF
  rw [show lostL.length = 8 from rfl, lost_ab, lost_bt, lost_c1, lost_c2, lost_c3]
  rfl
theorem strict_one : ∀ {a b : List Int}, Strict a → Strict b → (∀ x, x ∈ a ↔ x ∈ b) → a = b := fun {a b} ha hb h => by
  refine List.Perm.eq_of_pairwise (le := fun x y => x < y) (fun x y _ _ h1 h2 => by omega) ha hb ?_
  exact (List.perm_ext_iff_of_nodup (strict_nodup ha) (strict_nodup hb)).2 h
theorem sort_by {a b : List Int} (hb : Strict b) (ha : a.Nodup) (h : ∀ x, x ∈ a ↔ x ∈ b) : sortM a = b := strict_one (strict_sort ha) hb fun x => sortM_mem.trans (h x)
theorem lost_order : orderM lostA (comL lostL).length (comL lostL) [] = none := by
  have e : comL lostL = [1, 2] := by rfl
  rw [e]
  show orderM lostA (1 + 1) [1, 2] [] = none
  unfold orderM
  have hs : sortM [1, 2] = [1, 2] := sort_by (by unfold Strict; simp) (by simp) (fun x => Iff.rfl)
  have hf : freeM lostA [1, 2] = none := by unfold freeM; rw [hs]; rfl
  rw [hf]; rfl
theorem one_order : orderM oneA (comL oneL).length (comL oneL) [] = some [2, 1] := by
  have e : comL oneL = [2, 1] := by rfl
  rw [e]
  show orderM oneA (1 + 1) [2, 1] [] = some [2, 1]
  have hs : sortM [2, 1] = [1, 2] := sort_by (by unfold Strict; simp) (by simp) (fun x => by simp [or_comm])
  have hf : freeM oneA [2, 1] = some 2 := by unfold freeM; rw [hs]; rfl
  have hs1 : sortM [1] = [1] := sort_by (by unfold Strict; simp) (by simp) (fun x => Iff.rfl)
  have hf1 : freeM oneA [1] = some 1 := by unfold freeM; rw [hs1]; rfl
  unfold orderM
  rw [hf]
  show orderM oneA (0 + 1) (takeOut [2, 1] 2) ([] ++ [2]) = _
  rw [show takeOut [2, 1] 2 = [1] by rfl]
  unfold orderM
  rw [hf1]
  rfl
theorem lost_anom {E : Int → List Int} {ks : List Int} (G : GraphOf lostA wA E) (hs : Strict ks) (hk : ∀ x, x ∈ ks ↔ (E x).isEmpty = false) : anomF E ks = some [1, 2] := by
  have mem : ∀ x y, y ∈ E x ↔ (x = 1 ∧ y = 2) ∨ (x = 2 ∧ y = 1) := fun x y => by
    rw [(G x).2 y]
    constructor
    · rintro ⟨a, ha, rfl, rfl, _⟩
      rcases lost_mem.1 ha with rfl | rfl
      · exact .inl ⟨rfl, rfl⟩
      · exact .inr ⟨rfl, rfl⟩
    · rintro (⟨rfl, rfl⟩ | ⟨rfl, rfl⟩)
      · exact ⟨_, lost_mem.2 (.inl rfl), rfl, rfl, rfl⟩
      · exact ⟨_, lost_mem.2 (.inr rfl), rfl, rfl, rfl⟩
  have e1 : E 1 = [2] := strict_one (G 1).1 (by unfold Strict; simp) fun y => by rw [mem]; simp
  have e2 : E 2 = [1] := strict_one (G 2).1 (by unfold Strict; simp) fun y => by rw [mem]; simp
  have e3 : ks = [1, 2] := strict_one hs (by unfold Strict; simp) fun x => by
    rw [hk]
    constructor
    · intro h
      cases hE : E x with
      | nil => rw [hE] at h; cases h
      | cons y r =>
        have := (mem x y).1 (by rw [hE]; exact List.mem_cons_self)
        simp; omega
    · intro h
      simp at h
      rcases h with rfl | rfl
      · rw [e1]; rfl
      · rw [e2]; rfl
  have w1 : ∀ k x, WalkR E 1 k x ↔ (k = 0 ∧ x = 1) ∨ (k = 1 ∧ x = 2) := fun k x => by
    constructor
    · intro h
      induction h with
      | zero => exact .inl ⟨rfl, rfl⟩
      | @succ k x y h1 h2 _ ih => have := (mem x y).1 h2; omega
    · rintro (⟨rfl, rfl⟩ | ⟨rfl, rfl⟩)
      · exact .zero
      · exact .succ (by decide) ((mem 2 1).2 (.inr ⟨rfl, rfl⟩)) .zero
  have s1 : shortF E 1 = some [1, 2] := by
    refine shortF_eq ⟨fun z => if z = 1 then some 0 else if z = 2 then some 1 else none, fun x k => ?_, ?_⟩
    · simp only [w1]
      constructor
      · intro h
        split at h
        · cases h; rename_i e; exact ⟨.inl ⟨rfl, e⟩, fun j hj => Nat.zero_le _⟩
        · split at h
          · cases h; rename_i e1 e2; exact ⟨.inr ⟨rfl, e2⟩, fun j hj => by omega⟩
          · cases h
      · rintro ⟨⟨rfl, rfl⟩ | ⟨rfl, rfl⟩, _⟩ <;> rfl
    · refine .go (b := 2) ?_ (by decide) (.fin ?_)
      · unfold bestM; rw [e1]; rfl
      · unfold bestM; rw [e2]; rfl
  have s2 : shortF E 2 = none := by
    refine shortF_eq ⟨fun z => if z = 2 then some 0 else none, fun x k => ?_, ?_⟩
    · constructor
      · intro h
        replace h : (if x = 2 then some 0 else none : Option Nat) = some k := h
        split at h
        · cases h; rename_i e; rw [e]; exact ⟨.zero, fun j hj => Nat.zero_le _⟩
        · cases h
      · rintro ⟨h, _⟩
        cases h with
        | zero => rfl
        | succ h1 h2 h3 => have := (mem _ _).1 h2; omega
    · refine .no ?_
      unfold bestM; rw [e2]; rfl
  rw [e3]
  unfold anomF
  rw [List.foldl_cons, List.foldl_cons, List.foldl_nil]
  unfold anS
  rw [s1, s2]
theorem one_only : onlyM oneL [1] = [⟨1, 1, 0, 0, 0⟩, ⟨2, 1, 1, 0, 1⟩, ⟨4, 1, 0, 0, 0⟩] := by rfl
end Go.Proofs.Ytibhpoikhkokiaa.Hw

/- Histories: awake (c4). -/
set_option linter.unusedVariables false
set_option linter.unusedSimpArgs false
set_option maxRecDepth 20000
namespace Go.Proofs.Ytibhpoikhkokiaa.Hw
open Go Go.Proofs
section
variable {H H' : Hp} {Q : Value → Hp → Prop}
/-- The same numbers. -/
theorem c18 {A B : Option Addr} {n k ca cb : Nat} {l r : List Int} (hA : SlAt inC H A n l) (hB : SlAt inC H B k r) (hq : Q (.bool (decide (l = r))) H) : HCalls Try.prog 18 [.slice A n ca, .slice B k cb] H Q := by
  refine f18.ok _ _ _ _ _ _ ?_
  unfold f18
  obtain rfl := hA.len
  obtain rfl := hB.len
  have hl1 := hA.lt
  have hl2 := hB.lt
  refine cndI (fun hne => ?_) fun heq => ?_
  · have : l ≠ r := fun e => by subst e; simp at hne
    rw [decide_eq_false this] at hq; exact hq
  have hlen : l.length = r.length := by
    have : ((l.length : Int) != (r.length : Int)) = false := heq
    simp at this; omega
  refine scan hl1 (fun i H' => H' = H ∧ l.take i = r.take i) ⟨rfl, by simp⟩ (fun i H2 next hi hI hnext => ?_) (fun H2 next hI => ?_)
  · obtain ⟨rfl, ht⟩ := hI
    obtain ⟨x, hx⟩ := get_of hi
    obtain ⟨y, hy⟩ := get_of (l := r) (i := i) (by omega)
    dsimp only
    refine cndT (decide_eq_true (by omega)) ⟨by omega, by omega, rd_in hA hx fun q o _ k1 => ⟨x, by simpa using k1, by omega, by omega, rd_in hB hy fun q o _ k2 => ⟨y, by simpa using k2, cndI (fun hne => ?_) fun he => ⟨rfl, hnext H2 ⟨rfl, ?_⟩⟩⟩⟩⟩
    · have : l ≠ r := fun e => by
        subst e
        rw [hx] at hy; cases hy; simp at hne
      rw [decide_eq_false this] at hq; exact hq
    · have he : x = y := by simpa using he
      rw [take_snoc hx, take_snoc hy, ht, he]
  · obtain ⟨rfl, ht⟩ := hI
    rw [List.take_length, hlen, List.take_length] at ht
    dsimp only
    refine cndF (decide_eq_false (by omega)) ?_
    rw [decide_eq_true ht] at hq; exact hq
theorem c5 {t : Int} (hq : Q (.agg #[.int .i64 1, .int .i64 t, .int .i64 0, .int .i64 0, .int .i64 0]) H) : HCalls Try.prog 5 [.int .i64 t] H Q := by
  refine f5.ok _ ?_
  unfold f5; exact hq
theorem c7 {t i f s : Int} (hq : Q (.agg #[.int .i64 2, .int .i64 t, .int .i64 i, .int .i64 f, .int .i64 s]) H) : HCalls Try.prog 7 [.int .i64 t, .int .i64 i, .int .i64 f, .int .i64 s] H Q := by
  refine f7.ok _ _ _ _ ?_
  unfold f7; exact hq
theorem c6 {t i s : Int} (hq : Q (.agg #[.int .i64 3, .int .i64 t, .int .i64 i, .int .i64 0, .int .i64 s]) H) : HCalls Try.prog 6 [.int .i64 t, .int .i64 i, .int .i64 s] H Q := by
  refine f6.ok _ _ _ ?_
  unfold f6; exact hq
theorem c8 {t : Int} (hq : Q (.agg #[.int .i64 4, .int .i64 t, .int .i64 0, .int .i64 0, .int .i64 0]) H) : HCalls Try.prog 8 [.int .i64 t] H Q := by
  refine f8.ok _ ?_
  unfold f8; exact hq
/-- A new block of fixed cells as a slice. -/
theorem fresh_sl {α : Type} {f : α → List Value} {g ty : Nat} {l : List α} {vs : List Value} (hv : vs = l.flatMap f) (hs : l.length < huge) : SlAt f (upd g (.cells vs.toArray ty (0, 0)) H) (some ⟨g, 0, none⟩) l.length l :=
  ⟨rfl, .inr ⟨g, 0, rfl, fun j v hj => by rw [cl_cells upd_at, Nat.zero_add, hv]; exact hj⟩, hs⟩
theorem fitsQ_of {l : List Ev} {T : List Int} {v f : Bool} (hv : validM l = v) (hf : fitsM l T = f) (h : ∀ H', Ext H H' → Q (.tuple #[.bool (v && f), .int .i64 (if v then 0 else 2)]) H') : FitsQ H Q l T := by
  subst hv hf; exact h
theorem c4 (hq : ∀ H', Ext H H' → Q (.bool true) H') : HCalls Try.prog 4 [] H Q := by
  refine f4.ok ?_
  unfold f4
  refine c5 ⟨_, _, _, _, _, rfl, c5 ⟨_, _, _, _, _, rfl, c7 ⟨_, _, _, _, _, rfl, c7 ⟨_, _, _, _, _, rfl, c6 ⟨_, _, _, _, _, rfl, c8 ⟨_, _, _, _, _, rfl, c6 ⟨_, _, _, _, _, rfl, c8 ⟨_, _, _, _, _, rfl, fun g57 hg57 => ?_⟩⟩⟩⟩⟩⟩⟩⟩
  have hL := fresh_sl (H := H) (g := g57) (ty := 29) (f := evC) (l := lostL) (vs := lostL.flatMap evC) rfl (by unfold huge; decide)
  have x58 : Ext H (upd g57 (Obj.cells (lostL.flatMap evC).toArray 29 (0, 0)) H) := Ext.new hg57
  change HCalls _ _ _ (upd g57 (Obj.cells (lostL.flatMap evC).toArray 29 (0, 0)) H) _
  generalize (upd g57 (Obj.cells (lostL.flatMap evC).toArray 29 (0, 0)) H) = H58 at hL x58 ⊢
  have hL : SlAt evC H58 (some ⟨g57, 0, none⟩) 8 lostL := hL
  refine c12 hL (Nat.le_refl _) ⟨(fun h => by rw [lost_valid] at h; cases h), fun _ rs A61 c36 H60 ha x60 S61 _ => ⟨_, _, _, _, rfl, ?_⟩⟩
  obtain rfl := arcs_one ha lost_arcs
  rw [lost_faults] at S61 ⊢
  clear ha
  have hL60 := hL.ext x60
  refine c10 hL60 (Nat.le_refl _) (fitsQ_of lost_valid lost_serial fun H64 x64 => ⟨_, _, rfl, ?_⟩)
  have hL64 := hL60.ext x64
  refine c11 hL64 (Nat.le_refl _) (fitsQ_of lost_valid lost_com fun H68 x68 => ⟨_, _, rfl, ?_⟩)
  have hL68 := hL64.ext x68
  refine c14 hL68 (Nat.le_refl _) ⟨(fun h => by rw [lost_valid] at h; cases h), fun _ rs A73 c43 H72 ha x72 S73 _ => ⟨_, _, _, _, rfl, ?_⟩⟩
  obtain rfl := arcs_one ha lost_arcs
  have hL72 := hL68.ext x72
  refine c9 hL72 (Nat.le_refl _) ⟨(fun h => by rw [lost_valid] at h; cases h), (fun _ h => by rw [show lostL.length = 8 from rfl, lost_ab, lost_bt] at h; cases h), fun _ _ rs ha => ⟨fun ho H76 x76 => ⟨_, _, _, _, _, rfl, ?_⟩, (fun o ho => by rw [arcs_one ha lost_arcs, lost_order] at ho; cases ho)⟩⟩
  have hL76 := hL72.ext x76
  refine c15 hL76 (Nat.le_refl _) ⟨(fun h => by rw [lost_valid] at h; cases h), fun _ rs E ks ha G hs hk => ?_⟩
  obtain rfl := arcs_one ha lost_arcs
  rw [lost_anom G hs hk]
  refine ⟨(fun h => by cases h), fun o ho b82 c54 H81 x81 S82 _ => ⟨_, _, _, _, rfl, ?_⟩⟩
  cases ho
  refine c5 ⟨_, _, _, _, _, rfl, c7 ⟨_, _, _, _, _, rfl, c6 ⟨_, _, _, _, _, rfl, c8 ⟨_, _, _, _, _, rfl, c5 ⟨_, _, _, _, _, rfl, c7 ⟨_, _, _, _, _, rfl, c8 ⟨_, _, _, _, _, rfl, fun g133 hg133 => ?_⟩⟩⟩⟩⟩⟩⟩
  have hO := fresh_sl (H := H81) (g := g133) (ty := 29) (f := evC) (l := oneL) (vs := oneL.flatMap evC) rfl (by unfold huge; decide)
  have x134 : Ext H81 (upd g133 (Obj.cells (oneL.flatMap evC).toArray 29 (0, 0)) H81) := Ext.new hg133
  change HCalls _ _ _ (upd g133 (Obj.cells (oneL.flatMap evC).toArray 29 (0, 0)) H81) _
  generalize (upd g133 (Obj.cells (oneL.flatMap evC).toArray 29 (0, 0)) H81) = H134 at hO x134 ⊢
  have hO : SlAt evC H134 (some ⟨g133, 0, none⟩) 7 oneL := hO
  refine c9 hO (Nat.le_refl _) ⟨(fun h => by rw [one_valid] at h; cases h), (fun _ h => by rw [show oneL.length = 7 from rfl, one_ab, one_bt] at h; cases h), fun _ _ rs ha => ?_⟩
  obtain rfl := arcs_one ha one_arcs
  rw [one_order]
  refine ⟨(fun h => by cases h), fun o ho A137 c94 H136 x136 S137 _ => ⟨_, _, _, _, _, rfl, fun g140 hg140 => ?_⟩⟩
  cases ho
  have h12 := fresh_sl (H := H136) (g := g140) (ty := 3) (f := inC) (l := [1, 2]) (vs := [Value.int .i64 1, .int .i64 2]) rfl (by unfold huge; decide)
  have x141 : Ext H136 (upd g140 (Obj.cells [Value.int .i64 1, .int .i64 2].toArray 3 (0, 0)) H136) := Ext.new hg140
  generalize (upd g140 (Obj.cells [Value.int .i64 1, .int .i64 2].toArray 3 (0, 0)) H136) = H141 at h12 x141 ⊢
  have hO141 := (hO.ext x136).ext x141
  refine c16 hO141 (Nat.le_refl _) h12 (fitsQ_of one_valid one_fits fun H143 x143 => ⟨_, _, rfl, fun g146 hg146 => ?_⟩)
  have h1 := fresh_sl (H := H143) (g := g146) (ty := 3) (f := inC) (l := [1]) (vs := [Value.int .i64 1]) rfl (by unfold huge; decide)
  have x147 : Ext H143 (upd g146 (Obj.cells [Value.int .i64 1].toArray 3 (0, 0)) H143) := Ext.new hg146
  generalize (upd g146 (Obj.cells [Value.int .i64 1].toArray 3 (0, 0)) H143) = H147 at h1 x147 ⊢
  have hO147 := (hO141.ext x143).ext x147
  refine c17 hO147 (Nat.le_refl _) h1 ⟨(fun h => by rw [one_valid] at h; cases h), fun _ A150 c108 H149 x149 S150 _ => ⟨_, _, _, _, rfl, c5 ⟨_, _, _, _, _, rfl, fun g159 hg159 => ?_⟩⟩⟩
  rw [one_only] at S150 ⊢
  have hB := fresh_sl (H := H149) (g := g159) (ty := 29) (f := evC) (l := badL) (vs := badL.flatMap evC) rfl (by unfold huge; decide)
  have x160 : Ext H149 (upd g159 (Obj.cells (badL.flatMap evC).toArray 29 (0, 0)) H149) := Ext.new hg159
  change HCalls _ _ _ (upd g159 (Obj.cells (badL.flatMap evC).toArray 29 (0, 0)) H149) _
  generalize (upd g159 (Obj.cells (badL.flatMap evC).toArray 29 (0, 0)) H149) = H160 at hB x160 ⊢
  have hB : SlAt evC H160 (some ⟨g159, 0, none⟩) 1 badL := hB
  refine c14 hB (Nat.le_refl _) ⟨fun _ H162 x162 => ⟨_, _, _, _, rfl, ?_⟩, (fun h => by rw [bad_valid] at h; cases h)⟩
  have y81 : Ext H81 H162 := (((((x134.trans x136).trans x141).trans x143).trans x147).trans x149).trans (x160.trans x162)
  have y149 : Ext H149 H162 := x160.trans x162
  have y136 : Ext H136 H162 := ((x141.trans x143).trans x147).trans (x149.trans y149)
  have y72 : Ext H72 H162 := (x76.trans x81).trans y81
  have y60 : Ext H60 H162 := (x64.trans x68).trans (x72.trans y72)
  have y0 : Ext H H162 := x58.trans (x60.trans y60)
  have T61 := S61.ext y60
  have T73 := S73.ext y72
  have T82 := S82.ext y81
  have T137 := S137.ext y136
  have T150 := S150.ext y149
  refine jn_intro (fun J => J false) ?_ fun J hJ => cndF rfl (cndF rfl hJ)
  refine cndF rfl (jn_intro (fun J => ∀ H', Ext H H' → J true H') (fun H' hx => hq H' hx) fun J hJ => ⟨by omega, by decide, ?_⟩)
  refine at_cells T61.cells (by simp [stC]) fun b167 o167 _ k167 => ⟨sRw, k167 0 _ rfl, cndT (beq_iff_eq.2 rfl) (cndT rfl (cndT rfl (cndT rfl (cndT rfl (cndT rfl ⟨by omega, by decide, ?_⟩)))))⟩
  refine rd_ar (i := 0) T73 rfl fun q o _ k1 k2 k3 k4 => ⟨1, by simpa using k1, 2, by simpa using k2, 1, by simpa using k3, 1, by simpa using k4, cndT rfl ⟨by omega, by decide, ?_⟩⟩
  refine rd_ar (i := 1) T73 rfl fun q o _ k1 k2 k3 k4 => ⟨2, by simpa using k1, 1, by simpa using k2, 3, by simpa using k3, 1, by simpa using k4, cndT rfl (cndT rfl (cndT rfl (cndT rfl fun g179 hg179 => ?_)))⟩
  have hw := fresh_sl (H := H162) (g := g179) (ty := 3) (f := inC) (l := [1, 2]) (vs := [Value.int .i64 1, .int .i64 2]) rfl (by unfold huge; decide)
  have x180 : Ext H162 (upd g179 (Obj.cells [Value.int .i64 1, .int .i64 2].toArray 3 (0, 0)) H162) := Ext.new hg179
  generalize (upd g179 (Obj.cells [Value.int .i64 1, .int .i64 2].toArray 3 (0, 0)) H162) = H180 at hw x180 ⊢
  refine c18 (T82.ext x180) hw ⟨_, rfl, cndT rfl (cndT rfl (cndT rfl fun g184 hg184 => ?_))⟩
  have hw2 := fresh_sl (H := H180) (g := g184) (ty := 3) (f := inC) (l := [2, 1]) (vs := [Value.int .i64 2, .int .i64 1]) rfl (by unfold huge; decide)
  have x185 : Ext H180 (upd g184 (Obj.cells [Value.int .i64 2, .int .i64 1].toArray 3 (0, 0)) H180) := Ext.new hg184
  generalize (upd g184 (Obj.cells [Value.int .i64 2, .int .i64 1].toArray 3 (0, 0)) H180) = H185 at hw2 x185 ⊢
  refine c18 ((T137.ext x180).ext x185) hw2 ⟨_, rfl, cndT rfl (cndT rfl (cndT rfl (cndT rfl ⟨by omega, by decide, ?_⟩)))⟩
  refine rd_ev (i := 1) ((T150.ext x180).ext x185) rfl fun q o _ k1 k2 k3 k4 k5 => ⟨0, by simpa using k4, cndT rfl (cndT rfl (cndT rfl ?_))⟩
  refine c13 ((((((hL76.ext x81).ext y81).ext x180).ext x185))) fun H192 x192 => ⟨true, by rw [lost_valid], hJ H192 ((((y0.trans x180).trans x185).trans x192))⟩
end
end Go.Proofs.Ytibhpoikhkokiaa.Hw

/- Histories: what fits has only faults of the third kind (plain law). -/
set_option linter.unusedVariables false
set_option linter.unusedSimpArgs false
namespace Go.Proofs.Ytibhpoikhkokiaa.Hw
open Go Go.Proofs
section
variable {l : List Ev} {t : Int}
theorem comAt_of {c : Nat} (h : commitI l t = some c) : comAt l t = (c : Int) := by unfold comAt natOr; rw [h]; rfl
theorem com_some (h : comB l t = true) : ∃ c, commitI l t = some c := Option.isSome_iff_exists.1 h
/-- What a read saw: its own, or what was last there at a place before it. -/
def SawB (l : List Ev) (i : Nat) (x : Ev) : Prop := ∃ p : Int, p ≤ i ∧ x.frm = (if wroteM (l.take i) x.txn x.item then x.txn else lastM l x.item p)
theorem okEv_read {st p u : Int} {i : Nat} {x : Ev} (h : okEv l x.txn st p u i x = true) (ho : x.op = 2) (hw : wantedB st x = true) : x.frm = (if wroteM (l.take i) x.txn x.item then x.txn else lastM l x.item p) := by
  unfold okEv at h
  rw [if_neg (by simp), if_pos (by simp [ho]), hw, Bool.true_and, Bool.not_eq_true'] at h
  simpa using h
theorem fits_at {st p u : Int} {i : Nat} {x : Ev} (h : fitsB l t st p u = true) (hx : l[i]? = some x) : okEv l t st p u i x = true := by
  unfold fitsB at h
  rw [List.all_eq_true] at h
  have := h i (List.mem_range.2 (List.getElem?_eq_some_iff.1 hx).1)
  unfold okAt at this
  rw [hx] at this
  exact this
theorem found_ex {st lo hi u : Int} (h : foundB l t st lo hi u = true) : ∃ p, lo ≤ p ∧ p ≤ hi ∧ fitsB l t st p u = true := by
  unfold foundB at h
  obtain ⟨k, hk, h2⟩ := List.any_eq_true.1 h
  have := List.mem_range.1 hk
  exact ⟨lo + k, by omega, by omega, h2⟩
theorem serial_saw {i : Nat} {x : Ev} (hs : serialB l x.txn = true) (hx : l[i]? = some x) (ho : x.op = 2) : SawB l i x := by
  obtain ⟨p, h1, h2, h3⟩ := found_ex hs
  refine ⟨p, ?_, okEv_read (fits_at h3 hx) ho (by unfold wantedB; rfl)⟩
  have : highM l x.txn ≤ i := by
    unfold highM
    have hop : opOf x.txn x = true := by unfold opOf; simp [ho]
    cases hf : l.findIdx? (opOf x.txn) with
    | none =>
      rw [List.findIdx?_eq_none_iff] at hf
      have := hf x (List.mem_of_getElem? hx)
      rw [hop] at this; cases this
    | some j =>
      rw [List.findIdx?_eq_some_iff_getElem] at hf
      obtain ⟨g1, _, g3⟩ := hf
      show j ≤ i
      apply Nat.le_of_not_lt
      intro hlt
      have := g3 i hlt
      rw [(List.getElem?_eq_some_iff.1 hx).2, hop] at this
      exact this rfl
  omega
/-- What 'each' has found so far. -/
theorem each_inv {k n : Nat} : (eachTo l t k n).2.2 = true → ((eachTo l t k n).2.1 ≠ 0 → ∃ (i0 : Nat) (lo : Int), i0 < k + 1 + n ∧ foundB l t (eachTo l t k n).2.1 lo i0 (-1) = true) ∧
    ∀ (i : Nat) (x : Ev), k < i → i < k + 1 + n → l[i]? = some x → x.txn = t → x.stmt ≠ 0 → ∃ (i0 : Nat) (lo : Int), i0 ≤ i ∧ foundB l t x.stmt lo i0 (-1) = true := by
  induction n with
  | zero => intro _; exact ⟨fun h => absurd rfl h, fun i x h1 h2 => by omega⟩
  | succ n ih =>
    intro h
    have hpre : (eachTo l t k n).2.2 = true := by
      cases hh : (eachTo l t k n).2.2 with
      | true => rfl
      | false => rw [eachTo_false hh (Nat.le_succ n)] at h; cases h
    obtain ⟨h1, h2⟩ := ih hpre
    rw [eachTo_succ] at h ⊢
    unfold eachS at h ⊢
    cases hx : l[k + 1 + n]? with
    | none =>
      rw [hx] at h
      refine ⟨fun hne => ?_, fun i x hki hi hxi htx hs => ?_⟩
      · obtain ⟨i0, lo, a, b⟩ := h1 hne
        exact ⟨i0, lo, by omega, b⟩
      · have : i ≠ k + 1 + n := fun e => by rw [e, hx] at hxi; cases hxi
        exact h2 i x hki (by omega) hxi htx hs
    | some y =>
      rw [hx] at h
      simp only at h ⊢
      cases hy : y.txn == t with
      | false =>
        rw [hy] at h
        simp only [Bool.false_eq_true, if_false] at h ⊢
        refine ⟨fun hne => ?_, fun i x hki hi hxi htx hs => ?_⟩
        · obtain ⟨i0, lo, a, b⟩ := h1 hne
          exact ⟨i0, lo, by omega, b⟩
        · have : i ≠ k + 1 + n := fun e => by rw [e, hx] at hxi; cases hxi; rw [htx] at hy; simp at hy
          exact h2 i x hki (by omega) hxi htx hs
      | true =>
        rw [hy] at h
        simp only [if_true] at h ⊢
        rw [Bool.and_eq_true, Bool.or_eq_true] at h
        have key : y.stmt ≠ 0 → ∃ (i0 : Nat) (lo : Int), i0 ≤ k + 1 + n ∧ foundB l t y.stmt lo i0 (-1) = true := fun hne => by
          rcases h.2 with he | hf
          · have he : y.stmt = (eachTo l t k n).2.1 := by simpa using he
            rw [he] at hne ⊢
            obtain ⟨i0, lo, a, b⟩ := h1 hne
            exact ⟨i0, lo, by omega, b⟩
          · exact ⟨k + 1 + n, _, Nat.le_refl _, hf⟩
        refine ⟨fun hne => ?_, fun i x hki hi hxi htx hs => ?_⟩
        · obtain ⟨i0, lo, a, b⟩ := key hne
          exact ⟨i0, lo, by omega, b⟩
        · by_cases e : i = k + 1 + n
          · rw [e, hx] at hxi; cases hxi
            obtain ⟨i0, lo, a, b⟩ := key hs
            exact ⟨i0, lo, by omega, b⟩
          · exact h2 i x hki (by omega) hxi htx hs
theorem read_parts (hok : OkTo l l.length) {i : Nat} {x : Ev} (hx : l[i]? = some x) (ho : x.op = 2) : x.stmt ≠ 0 := by
  have h := hok i x (List.getElem?_eq_some_iff.1 hx).1 hx
  unfold evOk at h
  rw [show (x.op == 1) = false by simp [ho], show (x.op == 2) = true by simp [ho]] at h
  simp only [Bool.false_eq_true, if_false, if_true, Bool.and_eq_true, decide_eq_true_eq] at h
  have := h.2.2.2.2.1
  omega
theorem each_saw (hok : OkTo l l.length) {i : Nat} {x : Ev} (hs : eachB l x.txn = true) (hx : l[i]? = some x) (ho : x.op = 2) (hc : comB l x.txn = true) : SawB l i x := by
  obtain ⟨c, hc⟩ := com_some hc
  obtain ⟨b, hb, hbi⟩ := hok.begin_lt hx (by rw [ho]; decide)
  have hci := hok.commit_gt hx hc
  have hne : i ≠ c := fun e => by
    obtain ⟨y, hy, hp⟩ := commit_get hc
    rw [← e, hx] at hy; cases hy
    have := (isC_iff.1 hp).1
    omega
  unfold eachB at hs
  rw [hb, hc] at hs
  obtain ⟨i0, lo, h1, h2⟩ := (each_inv hs).2 i x hbi (by show i < b + 1 + (c - (b + 1)); omega) hx rfl (read_parts hok hx ho)
  obtain ⟨p, _, h4, h5⟩ := found_ex h2
  exact ⟨p, by omega, okEv_read (fits_at h5 hx) ho (by unfold wantedB; simp)⟩
/-- A version that was last there is of one that had committed. -/
theorem lastM_com {item p : Int} : ∀ {vs : List Int} {s : Int}, (s = 0 ∨ s ∈ versM l item ∧ comAt l s < p) → (∀ v ∈ vs, v ∈ versM l item) → (vs.foldl (lastS l p) s = 0 ∨ vs.foldl (lastS l p) s ∈ versM l item ∧ comAt l (vs.foldl (lastS l p) s) < p)
  | [], s, h, _ => h
  | v :: r, s, h, hm => by
    rw [List.foldl_cons]
    refine lastM_com (vs := r) ?_ fun u hu => hm u (List.mem_cons_of_mem _ hu)
    unfold lastS
    by_cases e : comAt l v < p
    · rw [if_pos (decide_eq_true e)]; exact .inr ⟨hm v List.mem_cons_self, e⟩
    · rw [if_neg (by simpa using e)]; exact h
theorem vers_com {item v : Int} (h : v ∈ versM l item) : comB l v = true := by
  unfold versM at h
  obtain ⟨j, hj, hv⟩ := List.mem_filterMap.1 h
  cases hx : l[j]? with
  | none => rw [hx] at hv; cases hv
  | some x =>
    rw [hx] at hv
    simp only at hv
    split at hv
    · rename_i hc
      cases hv
      rw [Bool.and_eq_true] at hc
      exact com_ex.2 ⟨j, x, hx, isC_iff.2 ⟨by simpa using hc.1, rfl⟩⟩
    · cases hv
theorem saw_com {i : Nat} {x : Ev} (h : SawB l i x) : x.frm = x.txn ∨ x.frm = 0 ∨ comB l x.frm = true ∧ comAt l x.frm < i := by
  obtain ⟨p, hp, h⟩ := h
  split at h
  · exact .inl h
  · have := lastM_com (l := l) (item := x.item) (p := p) (vs := versM l x.item) (s := 0) (.inl rfl) fun v hv => hv
    change lastM l x.item p = 0 ∨ lastM l x.item p ∈ versM l x.item ∧ comAt l (lastM l x.item p) < p at this
    rw [← h] at this
    rcases this with h1 | ⟨h1, h2⟩
    · exact .inr (.inl h1)
    · exact .inr (.inr ⟨vers_com h1, by omega⟩)
theorem last_com (hok : OkTo l l.length) {t k : Int} {c : Nat} (hc : commitI l t = some c) : natOr (lastW l t k) ≤ c := by
  cases hw : lastW l t k with
  | none => exact Nat.zero_le _
  | some w =>
    obtain ⟨x, hx, hp, _⟩ := lastI_some hw
    have h := isW_iff.1 hp
    exact hok.commit_gt hx (by rw [h.2.1]; exact hc)
/-- The places of commits rise in the versions of an item. -/
theorem vers_rise (hok : OkTo l l.length) {k : Int} : ∀ n, n ≤ l.length → (versM (l.take n) k).Pairwise (fun a b => comAt l a < comAt l b) ∧ ∀ v ∈ versM (l.take n) k, comAt l v < n := by
  intro n
  induction n with
  | zero => intro _; rw [List.take_zero, vers_nil]; exact ⟨List.Pairwise.nil, fun v hv => by cases hv⟩
  | succ n ih =>
    intro hn
    obtain ⟨h1, h2⟩ := ih (by omega)
    obtain ⟨x, hx⟩ := get_of (l := l) (i := n) (by omega)
    rw [take_snoc hx, vers_snoc]
    by_cases hc : (x.op == 4 && wroteM (l.take n) x.txn k) = true
    · rw [if_pos hc]
      rw [Bool.and_eq_true] at hc
      have ho : x.op = 4 := by simpa using hc.1
      have hcx : comAt l x.txn = n := comAt_of (hok.commit_at hx (isC_iff.2 ⟨ho, rfl⟩))
      refine ⟨?_, fun v hv => ?_⟩
      · rw [List.pairwise_append]
        refine ⟨h1, List.pairwise_singleton _ _, fun a ha b hb => ?_⟩
        rw [List.mem_singleton.1 hb, hcx]; exact h2 a ha
      · rcases List.mem_append.1 hv with hv | hv
        · have := h2 v hv; omega
        · rw [List.mem_singleton.1 hv, hcx]; omega
    · rw [if_neg hc, List.append_nil]
      exact ⟨h1, fun v hv => by have := h2 v hv; omega⟩
theorem fit_saw (hok : OkTo l l.length) {T : List Int} (hf : fitsM l T = true) {i : Nat} {x : Ev} (hx : l[i]? = some x) (ho : x.op = 2) (hc : comB l x.txn = true) : SawB l i x := by
  have h := fitsM_iff.1 hf _ hc
  unfold okT at h
  split at h
  · exact serial_saw h hx ho
  · exact each_saw hok h hx ho hc
theorem fit_ab (hok : OkTo l l.length) {T : List Int} (hf : fitsM l T = true) : abTo l l.length = false := by
  cases h : abTo l l.length with
  | false => rfl
  | true =>
    obtain ⟨i, x, _, hx, hp⟩ := any_take.1 h
    unfold badRead at hp
    simp only [Bool.and_eq_true, beq_iff_eq, bne_iff_ne, ne_eq, Bool.not_eq_true'] at hp
    obtain ⟨⟨h1, h2, h3, h4⟩, h5⟩ := hp
    rcases saw_com (fit_saw hok hf hx h1 h4) with h | h | ⟨h, _⟩
    · exact absurd h h3
    · exact absurd h h2
    · rw [h] at h5; cases h5
theorem fit_bt (hok : OkTo l l.length) {T : List Int} (hf : fitsM l T = true) : btTo l l.length = false := by
  cases h : btTo l l.length with
  | false => rfl
  | true =>
    unfold btTo at h
    obtain ⟨i, _, hp⟩ := List.any_eq_true.1 h
    unfold btAt at hp
    cases hx : l[i]? with
    | none => rw [hx] at hp; cases hp
    | some x =>
      rw [hx] at hp
      unfold badRead at hp
      simp only [Bool.and_eq_true, beq_iff_eq, bne_iff_ne, ne_eq, decide_eq_true_eq] at hp
      obtain ⟨⟨h1, h2, h3, h4⟩, h5⟩ := hp
      rcases saw_com (fit_saw hok hf hx h1 h4) with h | h | ⟨h, h6⟩
      · exact absurd h h3
      · exact absurd h h2
      · obtain ⟨c, hc⟩ := com_some h
        have := last_com hok (k := x.item) hc
        rw [comAt_of hc] at h6
        omega
/-- Arcs of the first two kinds lead on in the order of commits. -/
theorem fit_arc (hok : OkTo l l.length) {T : List Int} (hf : fitsM l T = true) {rs : List Arc} (ha : ArcsOf l rs) {x : Arc} (hx : x ∈ rs) (hk : x.kind ≠ 3) : comAt l x.a < comAt l x.b := by
  obtain ⟨hne, h1, h2, ⟨_, j, hj1, hj2⟩ | ⟨_, i, e, he, ho, hlt, ea, eb, _⟩ | ⟨h3, _⟩⟩ := arc_iff.1 ((ha.2 x).1 hx)
  · have hr := (vers_rise hok (k := x.item) l.length (Nat.le_refl _)).1
    rw [List.take_length] at hr
    obtain ⟨g1, g2⟩ := List.getElem?_eq_some_iff.1 hj1
    obtain ⟨g3, g4⟩ := List.getElem?_eq_some_iff.1 hj2
    have := List.pairwise_iff_getElem.1 hr j (j + 1) g1 g3 (by omega)
    rw [g2, g4] at this
    exact this
  · rw [eb] at h2
    rcases saw_com (fit_saw hok hf he ho h2) with h | h | ⟨h, h6⟩
    · rw [ea, eb] at hne; exact absurd h hne
    · rw [ea, h] at h1
      have := com_in hok h1; omega
    · obtain ⟨c, hc⟩ := com_some h2
      have h7 := hok.commit_gt he hc
      rw [ea, eb, comAt_of hc]
      omega
  · exact absurd h3 hk
end
end Go.Proofs.Ytibhpoikhkokiaa.Hw

/- Histories: what is serial has no circle with one arc of the third kind (plain law). -/
set_option linter.unusedVariables false
set_option linter.unusedSimpArgs false
namespace Go.Proofs.Ytibhpoikhkokiaa.Hw
open Go Go.Proofs
section
variable {l : List Ev} {t : Int}
/-- A place from which a transaction reads and writes. -/
def PlaceIs (l : List Ev) (t p : Int) : Prop := fitsB l t 0 p (comAt l t) = true ∧ p ≤ (highM l t : Nat)
theorem high_le (hok : OkTo l l.length) {c : Nat} (hc : commitI l t = some c) : highM l t ≤ c := by
  unfold highM
  cases hf : l.findIdx? (opOf t) with
  | none => show natOr (commitI l t) ≤ c; rw [hc]; exact Nat.le_refl _
  | some j =>
    rw [List.findIdx?_eq_some_iff_getElem] at hf
    obtain ⟨g1, g2, _⟩ := hf
    have hx : l[j]? = some l[j] := List.getElem?_eq_getElem g1
    have ht : l[j].txn = t := by unfold opOf at g2; simp at g2; exact g2.1
    exact hok.commit_gt hx (by rw [ht]; exact hc)
theorem PlaceIs.le (hok : OkTo l l.length) {p : Int} (hc : comB l t = true) (h : PlaceIs l t p) : p ≤ comAt l t := by
  obtain ⟨c, hc⟩ := com_some hc
  have := high_le hok hc
  have := h.2
  rw [comAt_of hc]; omega
theorem vers_get {item v : Int} (h : v ∈ versM l item) : ∃ (j : Nat) (x : Ev), l[j]? = some x ∧ x.op = 4 ∧ x.txn = v ∧ wroteM (l.take j) v item = true := by
  unfold versM at h
  obtain ⟨j, hj, hv⟩ := List.mem_filterMap.1 h
  cases hx : l[j]? with
  | none => rw [hx] at hv; cases hv
  | some x =>
    rw [hx] at hv
    simp only at hv
    split at hv
    · rename_i hc
      cases hv
      rw [Bool.and_eq_true] at hc
      exact ⟨j, x, hx, by simpa using hc.1, rfl, hc.2⟩
    · cases hv
theorem rise (hok : OkTo l l.length) (k : Int) : (versM l k).Pairwise (fun a b => comAt l a < comAt l b) := by
  have := (vers_rise hok (k := k) l.length (Nat.le_refl _)).1
  rwa [List.take_length] at this
theorem last_max {p : Int} : ∀ {vs pre : List Int} {s : Int}, (pre ++ vs).Pairwise (fun a b => comAt l a < comAt l b) → (∀ v ∈ pre, comAt l v < p → s ∈ pre ∧ comAt l v ≤ comAt l s) →
    ∀ v ∈ pre ++ vs, comAt l v < p → vs.foldl (lastS l p) s ∈ pre ++ vs ∧ comAt l v ≤ comAt l (vs.foldl (lastS l p) s)
  | [], pre, s, _, h => by simpa using h
  | a :: r, pre, s, hp, h => by
    have e : pre ++ a :: r = (pre ++ [a]) ++ r := by simp
    rw [e] at hp ⊢
    rw [List.foldl_cons]
    refine last_max (vs := r) (pre := pre ++ [a]) hp ?_
    have hpa := (List.pairwise_append.1 (List.pairwise_append.1 hp).1).2.2
    intro v hv hvp
    unfold lastS
    by_cases hap : comAt l a < p
    · rw [if_pos (decide_eq_true hap)]
      refine ⟨by simp, ?_⟩
      rcases List.mem_append.1 hv with hv | hv
      · exact Int.le_of_lt (hpa v hv a (by simp))
      · rw [List.mem_singleton.1 hv]; exact Int.le_refl _
    · rw [if_neg (by simpa using hap)]
      rcases List.mem_append.1 hv with hv | hv
      · obtain ⟨h1, h2⟩ := h v hv hvp
        exact ⟨List.mem_append_left _ h1, h2⟩
      · rw [List.mem_singleton.1 hv] at hvp; exact absurd hvp hap
theorem lastM_max (hok : OkTo l l.length) {item p v : Int} (hv : v ∈ versM l item) (hp : comAt l v < p) : lastM l item p ∈ versM l item ∧ comAt l v ≤ comAt l (lastM l item p) := by
  have := last_max (l := l) (p := p) (vs := versM l item) (pre := []) (s := 0) (by simpa using rise hok item) (fun v hv => by cases hv) v (by simpa using hv) hp
  simpa [lastM] using this
theorem next_get {item f b : Int} (hb : nextM l item f = b) (h0 : b ≠ 0) : (f = 0 ∧ (versM l item)[0]? = some b) ∨ (f ≠ 0 ∧ ∃ j : Nat, (versM l item)[j]? = some f ∧ (versM l item)[j + 1]? = some b) := by
  unfold nextM at hb
  by_cases hf : f = 0
  · rw [if_pos (by simpa using hf)] at hb
    cases h : (versM l item)[0]? with
    | none => rw [h] at hb; exact absurd hb.symm h0
    | some y => rw [h] at hb; simp at hb; exact .inl ⟨hf, by rw [hb]⟩
  · rw [if_neg (by simpa using hf)] at hb
    cases h : (versM l item).findIdx? (fun y => f == y) with
    | none => rw [h] at hb; exact absurd hb.symm h0
    | some j =>
      rw [h] at hb
      simp only at hb
      rw [List.findIdx?_eq_some_iff_getElem] at h
      obtain ⟨g1, g2, _⟩ := h
      have g2 : f = (versM l item)[j] := by simpa using g2
      cases h2 : (versM l item)[j + 1]? with
      | none => rw [h2] at hb; exact absurd hb.symm h0
      | some y => rw [h2] at hb; simp at hb; exact .inr ⟨hf, j, by rw [List.getElem?_eq_getElem g1, g2], by rw [← hb]; exact h2⟩
theorem place_read {p : Int} (h : PlaceIs l t p) {i : Nat} {x : Ev} (hx : l[i]? = some x) (ho : x.op = 2) (ht : x.txn = t) : x.frm = (if wroteM (l.take i) t x.item then t else lastM l x.item p) := by
  subst ht
  exact okEv_read (fits_at h.1 hx) ho (by unfold wantedB; rfl)
variable (hok : OkTo l l.length) {rs : List Arc} (ha : ArcsOf l rs) {pl : Int → Int} (hp : ∀ t, comB l t = true → PlaceIs l t (pl t))
include hok ha hp
/-- An arc of the third kind leads to what committed later than the place. -/
theorem ser_rw {x : Arc} (hx : x ∈ rs) (hk : x.kind = 3) : pl x.a ≤ comAt l x.b := by
  obtain ⟨hne, h1, h2, ⟨h3, _⟩ | ⟨h3, _⟩ | ⟨_, i, e, he, ho, hc, ea, eb, _⟩⟩ := arc_iff.1 ((ha.2 x).1 hx)
  · rw [hk] at h3; cases h3
  · rw [hk] at h3; cases h3
  · have hb0 : x.b ≠ 0 := by have := com_in hok h2; omega
    have hr := place_read (hp x.a h1) he ho ea.symm
    have hpa := (hp x.a h1).le hok h1
    rcases next_get (l := l) eb.symm hb0 with ⟨hf, hv⟩ | ⟨hf, j, hv1, hv2⟩
    · split at hr
      · rw [hf] at hr
        have := com_in hok h1; omega
      · apply Classical.byContradiction
        intro hlt
        have := (lastM_max hok (item := e.item) (p := pl x.a) (List.mem_of_getElem? hv) (by omega)).1
        rw [← hr, hf] at this
        have := com_in hok (vers_com this); omega
    · obtain ⟨g1, g2⟩ := List.getElem?_eq_some_iff.1 hv1
      obtain ⟨g3, g4⟩ := List.getElem?_eq_some_iff.1 hv2
      have h := List.pairwise_iff_getElem.1 (rise hok e.item) j (j + 1) g1 g3 (by omega)
      rw [g2, g4] at h
      split at hr
      · rw [hr] at h; omega
      · apply Classical.byContradiction
        intro hlt
        have := (lastM_max hok (item := e.item) (p := pl x.a) (List.mem_of_getElem? hv2) (by omega)).2
        rw [← hr] at this; omega
end
theorem places {l : List Ev} (h : ∀ t, comB l t = true → serialB l t = true) : ∃ pl : Int → Int, ∀ t, comB l t = true → PlaceIs l t (pl t) := by
  have : ∀ t, ∃ p, comB l t = true → PlaceIs l t p := fun t => by
    cases hc : comB l t with
    | false => exact ⟨0, fun h => by cases h⟩
    | true =>
      obtain ⟨p, _, h2, h3⟩ := found_ex (h t hc)
      exact ⟨p, fun _ => ⟨h3, h2⟩⟩
  exact ⟨fun t => Classical.choose (this t), fun t => Classical.choose_spec (this t)⟩
end Go.Proofs.Ytibhpoikhkokiaa.Hw

/- Histories: there is an order just if there is no circle (plain law). -/
set_option linter.unusedVariables false
set_option linter.unusedSimpArgs false
set_option linter.unusedSectionVars false
namespace Go.Proofs.Ytibhpoikhkokiaa.Hw
open Go Go.Proofs
/-! ### what the order is -/
def Before (o : List Int) (a b : Int) : Prop := ∃ i j : Nat, i < j ∧ o[i]? = some a ∧ o[j]? = some b
theorem order_none {rs : List Arc} : ∀ {n : Nat} {L out : List Int}, L.Nodup → L.length ≤ n → orderM rs n L out = none → ∃ L' : List Int, L' ≠ [] ∧ ∀ t ∈ L', ∃ x ∈ rs, x.b = t ∧ x.a ∈ L'
  | 0, L, out, _, hn, h => by
    have : L = [] := List.eq_nil_of_length_eq_zero (by omega)
    subst this
    rw [order_end rfl] at h; cases h
  | n + 1, L, out, hL, hn, h => by
    unfold orderM at h
    split at h
    · cases h
    · rename_i hne
      cases hf : freeM rs L with
      | none =>
        refine ⟨L, fun e => by subst e; exact hne rfl, fun t ht => ?_⟩
        unfold freeM at hf
        rw [List.find?_eq_none] at hf
        have := hf t (sortM_mem.2 ht)
        unfold fr1 at this
        simp only [Bool.not_eq_true', Bool.not_eq_false, List.any_eq_true, Bool.and_eq_true, beq_iff_eq, List.contains_iff_mem] at this
        exact this
      | some t =>
        rw [hf] at h
        have ht := (free_mem hf).1
        have := takeOut_len hL ht
        exact order_none (n := n) (hL.filter _) (by show (takeOut L t).length ≤ n; omega) h
theorem order_some {rs : List Arc} : ∀ {n : Nat} {L out o : List Int}, L.Nodup → orderM rs n L out = some o → ∃ tl, o = out ++ tl ∧ SameEl tl L ∧ ∀ x ∈ rs, x.a ∈ L → x.b ∈ L → x.a ≠ x.b → Before tl x.a x.b
  | 0, L, out, o, hL, h => by
    unfold orderM at h
    split at h
    · rename_i he
      cases h
      have : L = [] := List.isEmpty_iff.1 he
      subst this
      exact ⟨[], by simp, ⟨List.nodup_nil, List.nodup_nil, fun x => Iff.rfl⟩, fun x _ ha => by cases ha⟩
    · cases h
  | n + 1, L, out, o, hL, h => by
    unfold orderM at h
    split at h
    · rename_i he
      cases h
      have : L = [] := List.isEmpty_iff.1 he
      subst this
      exact ⟨[], by simp, ⟨List.nodup_nil, List.nodup_nil, fun x => Iff.rfl⟩, fun x _ ha => by cases ha⟩
    · cases hf : freeM rs L with
      | none => rw [hf] at h; cases h
      | some t =>
        rw [hf] at h
        obtain ⟨ht, hfr⟩ := free_mem hf
        obtain ⟨tl, h1, h2, h3⟩ := order_some (n := n) (hL.filter _) h
        have hmem : ∀ x, x ∈ takeOut L t ↔ x ∈ L ∧ x ≠ t := fun x => by unfold takeOut; rw [List.mem_filter]; simp
        have h2' : SameEl tl (takeOut L t) := h2
        refine ⟨t :: tl, by rw [h1]; simp, ⟨List.nodup_cons.2 ⟨fun hm => ((hmem t).1 ((h2'.2.2 t).1 hm)).2 rfl, h2'.1⟩, hL, fun x => ?_⟩, fun x hx ha hb hne => ?_⟩
        · rw [List.mem_cons, h2'.2.2, hmem]
          constructor
          · rintro (rfl | h)
            · exact ht
            · exact h.1
          · intro hx
            by_cases e : x = t
            · exact .inl e
            · exact .inr ⟨hx, e⟩
        · have hbt : x.b ≠ t := fun e => by
            unfold fr1 at hfr
            rw [Bool.not_eq_true', List.any_eq_false] at hfr
            exact hfr x hx (by rw [e, List.contains_iff_mem.2 ha]; simp)
          have hbm : x.b ∈ takeOut L t := (hmem _).2 ⟨hb, hbt⟩
          by_cases hat : x.a = t
          · obtain ⟨j, hj⟩ := List.getElem?_of_mem ((h2'.2.2 _).2 hbm)
            exact ⟨0, j + 1, by omega, by rw [hat]; rfl, hj⟩
          · obtain ⟨i, j, hij, hi, hj⟩ := h3 x hx ((hmem _).2 ⟨ha, hat⟩) hbm hne
            exact ⟨i + 1, j + 1, by omega, hi, hj⟩
/-! ### circles -/
section
variable {E : Int → List Int}
end
/-- Where a number stands. -/
def posM (o : List Int) (t : Int) : Nat := match o.findIdx? (fun y => y == t) with
  | some i => i + 1
  | none => 0
theorem posM_of {o : List Int} (hn : o.Nodup) {i : Nat} {t : Int} (h : o[i]? = some t) : posM o t = i + 1 := by
  unfold posM
  obtain ⟨h1, h2⟩ := List.getElem?_eq_some_iff.1 h
  have : o.findIdx? (fun y => y == t) = some i := by
    rw [List.findIdx?_eq_some_iff_getElem]
    refine ⟨h1, by rw [h2]; simp, fun j hj => ?_⟩
    intro he
    have he : o[j] = t := by simpa using he
    exact List.pairwise_iff_getElem.1 hn j i (by omega) h1 hj (he.trans h2.symm)
  rw [this]
/-! ### faults of the first two kinds -/
end Go.Proofs.Ytibhpoikhkokiaa.Hw

/- Histories of transactions one after the other, plain. -/
set_option linter.unusedVariables false
set_option linter.unusedSimpArgs false
set_option linter.unusedSectionVars false
namespace Go.Proofs.Ytibhpoikhkokiaa.Hw
open Go Go.Proofs
/-- The last version. -/
def lvM (p : List Ev) (item : Int) : Int := ((versM p item).getLast?).getD 0
def RdOk (p : List Ev) (x : Ev) : Prop := x.op = 2 → x.frm = if wroteM p x.txn x.item then x.txn else lvM p x.item
def SeqOk (p : List Ev) (x : Ev) : Prop := (x.op = 1 ∧ ∀ z, p.getLast? = some z → z.op = 4) ∨ ((x.op = 2 ∨ x.op = 3 ∨ x.op = 4) ∧ ∃ z, p.getLast? = some z ∧ z.txn = x.txn ∧ z.op ≠ 4)
structure Part (h : List Ev) (cur : Option Int) (f : Int → Int) (k : Int) (W : List Int) : Prop where
  ok : OkTo h h.length
  rd : ∀ (i : Nat) x, h[i]? = some x → RdOk (h.take i) x
  sq : ∀ (i : Nat) x, h[i]? = some x → SeqOk (h.take i) x
  com : comL h = W
  beg : ∀ t, begunM h t = true → t ∈ W ∨ cur = some t
  fin : ∀ t, endedM h t = true → t ∈ W
  opn : ∀ item w, openM h item = some w → cur = some w
  now : ∀ n, cur = some n → n ∉ W ∧ inB n = true ∧ begunM h n = true ∧ (∃ z, h.getLast? = some z ∧ z.txn = n ∧ z.op ≠ 4) ∧ stmtM h n ≤ k
  non : cur = none → ∀ z, h.getLast? = some z → z.op = 4
  lst : ∀ item, f item = match cur with | some n => (if wroteM h n item then n else lvM h item) | none => lvM h item
theorem get_snoc {α : Type} {l : List α} {x y : α} {i : Nat} (h : (l ++ [x])[i]? = some y) : (l[i]? = some y ∧ i < l.length) ∨ (i = l.length ∧ y = x) := by
  by_cases hi : i < l.length
  · rw [List.getElem?_append_left hi] at h; exact .inl ⟨h, hi⟩
  · rw [List.getElem?_append_right (by omega)] at h
    by_cases e : i = l.length
    · subst e; simp at h; exact .inr ⟨rfl, h.symm⟩
    · rw [List.getElem?_eq_none (by simp; omega)] at h; cases h
theorem ok_snoc {h : List Ev} {x : Ev} (hok : OkTo h h.length) (hx : evOk h x = true) : OkTo (h ++ [x]) (h ++ [x]).length := fun i y hi hy => by
  rcases get_snoc hy with ⟨h1, h2⟩ | ⟨rfl, rfl⟩
  · rw [List.take_append_of_le_length (by omega)]; exact hok i y h2 h1
  · rw [List.take_append_of_le_length (Nat.le_refl _), List.take_length]; exact hx
theorem all_snoc {P : List Ev → Ev → Prop} {h : List Ev} {x : Ev} (hh : ∀ (i : Nat) y, h[i]? = some y → P (h.take i) y) (hx : P h x) : ∀ (i : Nat) y, (h ++ [x])[i]? = some y → P ((h ++ [x]).take i) y := fun i y hy => by
  rcases get_snoc hy with ⟨h1, h2⟩ | ⟨rfl, rfl⟩
  · rw [List.take_append_of_le_length (by omega)]; exact hh i y h1
  · rw [List.take_append_of_le_length (Nat.le_refl _), List.take_length]; exact hx
theorem comL_snoc {h : List Ev} {x : Ev} : comL (h ++ [x]) = comL h ++ if x.op == 4 then [x.txn] else [] := by
  unfold comL
  rw [List.filter_append, List.map_append, List.filter_cons]
  cases x.op == 4 <;> rfl
theorem last_snoc {α : Type} {l : List α} {x : α} : (l ++ [x]).getLast? = some x := by simp
theorem lv_snoc {h : List Ev} {x : Ev} {item : Int} : lvM (h ++ [x]) item = if (x.op == 4) && wroteM h x.txn item then x.txn else lvM h item := by
  unfold lvM
  rw [vers_snoc]
  split
  · simp
  · simp
theorem wrote_begun {h : List Ev} (hok : OkTo h h.length) {n item : Int} (hw : wroteM h n item = true) : begunM h n = true := by
  obtain ⟨x, hx, hp⟩ := List.any_eq_true.1 hw
  obtain ⟨o, e, _⟩ := isW_iff.1 hp
  obtain ⟨i, hi⟩ := List.getElem?_of_mem hx
  have := hok.begun hi (List.getElem?_eq_some_iff.1 hi).1 (by omega)
  rw [e] at this
  obtain ⟨j, y, hj, hy, hp2⟩ := any_take.1 this
  exact List.any_eq_true.2 ⟨y, List.mem_of_getElem? hy, hp2⟩
section
variable {h : List Ev} {cur : Option Int} {f : Int → Int} {k : Int} {W : List Int} {n : Int}
theorem Part.nil : Part [] none (fun _ => 0) 0 [] := by
  refine ⟨fun i x hi => (by simp at hi), fun i x hx => (by simp at hx), fun i x hx => (by simp at hx), rfl, fun t h => (by simp [begunM] at h), fun t h => (by simp [endedM] at h), fun i w h => (by simp [openM] at h), fun n h => (by cases h), fun _ z h => (by simp at h), fun item => rfl⟩
theorem Part.begin (P : Part h none f k W) (hn : inB n = true) (hW : n ∉ W) : Part (h ++ [⟨1, n, 0, 0, 0⟩]) (some n) f 0 W := by
  have hnb : begunM h n = false := by
    cases hb : begunM h n with
    | false => rfl
    | true => rcases P.beg n hb with h | h
              · exact absurd h hW
              · cases h
  have hne : endedM h n = false := by
    cases hb : endedM h n with
    | false => rfl
    | true => exact absurd (P.fin n hb) hW
  have hst : stmtM (h ++ [⟨1, n, 0, 0, 0⟩]) n = 0 := by
    rw [stmt_snoc]
    unfold stmtStep
    rw [if_neg (by simp)]
    refine stmt_zero fun x hx e => ?_
    obtain ⟨i, hi⟩ := List.getElem?_of_mem hx
    have hev := P.ok i x (List.getElem?_eq_some_iff.1 hi).1 hi
    by_cases ho : x.op = 1
    · have : begunM h n = true := List.any_eq_true.2 ⟨x, hx, isB_iff.2 ⟨ho, e⟩⟩
      rw [hnb] at this; cases this
    · have := P.ok.begun hi (List.getElem?_eq_some_iff.1 hi).1 ho
      rw [e] at this
      obtain ⟨j, y, hj, hy, hp2⟩ := any_take.1 this
      have : begunM h n = true := List.any_eq_true.2 ⟨y, List.mem_of_getElem? hy, hp2⟩
      rw [hnb] at this; cases this
  refine ⟨ok_snoc P.ok ?_, all_snoc P.rd (fun h => by cases h), all_snoc P.sq (.inl ⟨rfl, P.non rfl⟩), by rw [comL_snoc, P.com]; simp, fun t ht => ?_, fun t ht => ?_, fun item w hw => ?_, fun m hm => ?_, fun h => (by cases h), fun item => ?_⟩
  · unfold evOk; simp [hn, hnb, hne, plainB]
  · rw [begun_snoc, Bool.or_eq_true] at ht
    rcases ht with ht | ht
    · rcases P.beg t ht with h | h
      · exact .inl h
      · cases h
    · exact .inr (congrArg some (isB_iff.1 ht).2)
  · rw [ended_snoc] at ht
    have : isE t (⟨1, n, 0, 0, 0⟩ : Ev) = false := by unfold isE; simp
    rw [this, Bool.or_false] at ht
    exact P.fin t ht
  · rw [open_snoc] at hw
    unfold openStep at hw
    simp at hw
    have := P.opn item w hw
    cases this
  · cases hm
    exact ⟨hW, hn, by rw [begun_snoc]; simp [isB], ⟨_, last_snoc, rfl, by simp⟩, by rw [hst]; exact Int.le_refl _⟩
  · rw [P.lst item]
    have hw : wroteM (h ++ [⟨1, n, 0, 0, 0⟩]) n item = false := by
      rw [wrote_snoc]
      have : isW n item (⟨1, n, 0, 0, 0⟩ : Ev) = false := by unfold isW; simp
      rw [this, Bool.or_false]
      cases hw : wroteM h n item with
      | false => rfl
      | true => rw [wrote_begun P.ok hw] at hnb; cases hnb
    simp only [hw, Bool.false_eq_true, if_false]
    rw [lv_snoc]
    simp
theorem Part.op (P : Part h (some n) f k W) (b : Bool) {item : Int} (hi : inB item = true) (h1 : 1 ≤ k + 1) (hk : 0 ≤ k) :
    Part (h ++ [⟨if b then 3 else 2, n, item, if b then 0 else f item, k + 1⟩]) (some n) (fun i => if b = true ∧ i = item then n else f i) (k + 1) W := by
  obtain ⟨hW, hn, hb, hlast, hs⟩ := P.now n rfl
  have hne : endedM h n = false := by
    cases hb : endedM h n with
    | false => rfl
    | true => exact absurd (P.fin n hb) hW
  have hmax : max (stmtM h n) 1 ≤ k + 1 := by omega
  cases b with
  | false =>
    simp only [Bool.false_eq_true, if_false, false_and]
    refine ⟨ok_snoc P.ok ?_, all_snoc P.rd (fun _ => ?_), all_snoc P.sq (.inr ⟨.inl rfl, hlast⟩), by rw [comL_snoc, P.com]; simp, fun t ht => ?_, fun t ht => ?_, fun it w hw => ?_, fun m hm => ?_, fun h => (by cases h), fun it => ?_⟩
    · unfold evOk
      have hf : (f item == 0 || wroteM h (f item) item) = true := by
        rw [P.lst item]
        show ((if wroteM h n item then n else lvM h item) == 0 || wroteM h (if wroteM h n item then n else lvM h item) item) = true
        cases hw : wroteM h n item with
        | true => simp [hw]
        | false =>
          simp only [Bool.false_eq_true, if_false]
          unfold lvM
          cases hl : (versM h item).getLast? with
          | none => rfl
          | some v =>
            obtain ⟨j, x, hx, _, _, hw2⟩ := vers_get (List.mem_of_getLast? hl)
            obtain ⟨j', y, hj, hy, hp⟩ := any_take.1 hw2
            have : wroteM h v item = true := List.any_eq_true.2 ⟨y, List.mem_of_getElem? hy, hp⟩
            simp [this]
      simp [hn, hb, hne, hi, hf]
      omega
    · rw [P.lst item]
    · rw [begun_snoc] at ht
      have : isB t (⟨2, n, item, f item, k + 1⟩ : Ev) = false := by unfold isB; simp
      rw [this, Bool.or_false] at ht
      exact P.beg t ht
    · rw [ended_snoc] at ht
      have : isE t (⟨2, n, item, f item, k + 1⟩ : Ev) = false := by unfold isE; simp
      rw [this, Bool.or_false] at ht
      exact P.fin t ht
    · rw [open_snoc] at hw
      unfold openStep at hw
      simp at hw
      exact P.opn it w hw
    · cases hm
      exact ⟨hW, hn, by rw [begun_snoc, hb]; rfl, ⟨_, last_snoc, rfl, by simp⟩, by rw [stmt_snoc]; unfold stmtStep; simp⟩
    · rw [P.lst it]
      have hw : wroteM (h ++ [⟨2, n, item, f item, k + 1⟩]) n it = wroteM h n it := by
        rw [wrote_snoc]
        have : isW n it (⟨2, n, item, f item, k + 1⟩ : Ev) = false := by unfold isW; simp
        rw [this, Bool.or_false]
      have hv : lvM (h ++ [⟨2, n, item, f item, k + 1⟩]) it = lvM h it := by rw [lv_snoc]; simp
      simp only [hw, hv]
  | true =>
    simp only [if_true, true_and]
    refine ⟨ok_snoc P.ok ?_, all_snoc P.rd (fun h => by cases h), all_snoc P.sq (.inr ⟨.inr (.inl rfl), hlast⟩), by rw [comL_snoc, P.com]; simp, fun t ht => ?_, fun t ht => ?_, fun it w hw => ?_, fun m hm => ?_, fun h => (by cases h), fun it => ?_⟩
    · unfold evOk
      have ht : takenB h n item = false := by
        unfold takenB
        cases ho : openM h item with
        | none => rfl
        | some w =>
          have := P.opn item w ho
          cases this
          simp
      simp [hn, hb, hne, hi, ht]
      omega
    · rw [begun_snoc] at ht
      have : isB t (⟨3, n, item, 0, k + 1⟩ : Ev) = false := by unfold isB; simp
      rw [this, Bool.or_false] at ht
      exact P.beg t ht
    · rw [ended_snoc] at ht
      have : isE t (⟨3, n, item, 0, k + 1⟩ : Ev) = false := by unfold isE; simp
      rw [this, Bool.or_false] at ht
      exact P.fin t ht
    · rw [open_snoc] at hw
      unfold openStep at hw
      simp at hw
      split at hw
      · exact hw
      · exact P.opn it w hw
    · cases hm
      exact ⟨hW, hn, by rw [begun_snoc, hb]; rfl, ⟨_, last_snoc, rfl, by simp⟩, by rw [stmt_snoc]; unfold stmtStep; simp⟩
    · have hv : lvM (h ++ [⟨3, n, item, 0, k + 1⟩]) it = lvM h it := by rw [lv_snoc]; simp
      simp only [hv]
      rw [P.lst it, wrote_snoc]
      by_cases e : it = item
      · subst e
        have : isW n it (⟨3, n, it, 0, k + 1⟩ : Ev) = true := by unfold isW; simp
        simp [this]
      · have : isW n it (⟨3, n, item, 0, k + 1⟩ : Ev) = false := by unfold isW; simp; exact fun h => e h.symm
        simp [this, e]
theorem Part.commit (P : Part h (some n) f k W) : Part (h ++ [⟨4, n, 0, 0, 0⟩]) none f 0 (W ++ [n]) := by
  obtain ⟨hW, hn, hb, hlast, hs⟩ := P.now n rfl
  have hne : endedM h n = false := by
    cases hb : endedM h n with
    | false => rfl
    | true => exact absurd (P.fin n hb) hW
  refine ⟨ok_snoc P.ok ?_, all_snoc P.rd (fun h => by cases h), all_snoc P.sq (.inr ⟨.inr (.inr rfl), hlast⟩), by rw [comL_snoc, P.com]; simp, fun t ht => ?_, fun t ht => ?_, fun it w hw => ?_, fun m hm => (by cases hm), fun _ z hz => ?_, fun it => ?_⟩
  · unfold evOk; simp [hn, hb, hne, plainB]
  · rw [begun_snoc] at ht
    have : isB t (⟨4, n, 0, 0, 0⟩ : Ev) = false := by unfold isB; simp
    rw [this, Bool.or_false] at ht
    rcases P.beg t ht with h | h
    · exact .inl (List.mem_append_left _ h)
    · cases h; exact .inl (by simp)
  · rw [ended_snoc, Bool.or_eq_true] at ht
    rcases ht with ht | ht
    · exact List.mem_append_left _ (P.fin t ht)
    · rw [(isE_iff.1 ht).2.symm]; simp
  · rw [open_snoc] at hw
    unfold openStep at hw
    simp at hw
    have := P.opn it w hw.2
    cases this
    exact absurd hw.2 hw.1
  · rw [last_snoc] at hz; cases hz; rfl
  · rw [P.lst it]
    show _ = lvM _ it
    rw [lv_snoc]
    rfl
end
/-! ### what holds of such a history -/
section
variable {l : List Ev} (hok : OkTo l l.length) (hrd : ∀ (i : Nat) x, l[i]? = some x → RdOk (l.take i) x) (hsq : ∀ (i : Nat) x, l[i]? = some x → SeqOk (l.take i) x)
theorem take_last {l : List Ev} {i : Nat} {z : Ev} (hi : 0 < i) (hil : i ≤ l.length) (h : (l.take i).getLast? = some z) : l[i - 1]? = some z := by
  rw [List.getLast?_eq_getElem?, List.length_take, Nat.min_eq_left hil, List.getElem?_take_of_lt (by omega)] at h
  exact h
include hok hsq
/-- Between its begin and its commit all is of one transaction. -/
theorem one_block {t : Int} {k : Nat} (hb : beginI l t = some k) : ∀ {i : Nat} {x : Ev}, l[i]? = some x → x.txn = t → ∀ (j : Nat) (y : Ev), k ≤ j → j ≤ i → l[j]? = some y → y.txn = t ∧ (j < i → y.op ≠ 4)
  | 0, x, hx, ht, j, y, h1, h2, hy => by
    have : j = 0 := by omega
    subst this
    rw [hx] at hy; cases hy
    exact ⟨ht, fun h => by omega⟩
  | i + 1, x, hx, ht, j, y, h1, h2, hy => by
    by_cases e : j = i + 1
    · subst e; rw [hx] at hy; cases hy; exact ⟨ht, fun h => by omega⟩
    · have hil := (List.getElem?_eq_some_iff.1 hx).1
      rcases hsq (i + 1) x hx with ⟨ho, _⟩ | ⟨_, z, hz, hzt, hz4⟩
      · have := hok.begin_at hx (isB_iff.2 ⟨ho, ht⟩)
        rw [hb] at this; cases this; omega
      · have hz' := take_last (by omega) (by omega) hz
        rw [Nat.add_sub_cancel] at hz'
        by_cases e2 : j = i
        · subst e2
          rw [hz'] at hy; cases hy
          exact ⟨hzt.trans ht, fun _ => hz4⟩
        · have := one_block hb hz' (hzt.trans ht) j y h1 (by omega) hy
          exact ⟨this.1, fun _ => this.2 (by omega)⟩
theorem lv_same {t : Int} {k : Nat} (hb : beginI l t = some k) {item : Int} {i : Nat} {x : Ev} (hx : l[i]? = some x) (ht : x.txn = t) : ∀ m, k + 1 + m ≤ i → lvM (l.take (k + 1 + m)) item = lvM (l.take (k + 1)) item
  | 0, _ => rfl
  | m + 1, hm => by
    have hil := (List.getElem?_eq_some_iff.1 hx).1
    obtain ⟨y, hy⟩ := get_of (l := l) (i := k + 1 + m) (by omega)
    have := (one_block hok hsq hb hx ht (k + 1 + m) y (by omega) (by omega) hy).2 (by omega)
    rw [show k + 1 + (m + 1) = (k + 1 + m) + 1 by omega, take_snoc hy, lv_snoc]
    have ho : (y.op == 4) = false := by simpa using this
    rw [ho, Bool.false_and]
    exact lv_same hb hx ht m (by omega)
omit hsq in
theorem lastM_lv {item : Int} {n : Nat} (hn : n ≤ l.length) : lastM l item n = lvM (l.take n) item := by
  have key : ∀ k, k ≤ l.length → (versM (l.take k) item).foldl (lastS l n) 0 = lvM (l.take (min n k)) item := by
    intro k
    induction k with
    | zero => intro _; simp [vers_nil, lvM]
    | succ k ih =>
      intro hk
      obtain ⟨x, hx⟩ := get_of (l := l) (i := k) (by omega)
      have ih := ih (by omega)
      rw [take_snoc hx, vers_snoc, List.foldl_append, ih]
      cases hc : (x.op == 4) && wroteM (l.take k) x.txn item with
      | true =>
        have hc' := hc
        rw [Bool.and_eq_true, beq_iff_eq] at hc
        have hco := hok.commit_at hx (isC_iff.2 ⟨hc.1, rfl⟩)
        show lastS l n _ x.txn = _
        unfold lastS
        rw [comAt_of hco]
        by_cases hlt : k < n
        · rw [if_pos (decide_eq_true (by omega)), Nat.min_eq_right (by omega), take_snoc hx, lv_snoc, hc', if_pos rfl]
        · rw [if_neg (by simp; omega), Nat.min_eq_left (by omega), Nat.min_eq_left (by omega)]
      | false =>
        show lvM (l.take (min n k)) item = _
        by_cases hlt : k < n
        · rw [Nat.min_eq_right (by omega : k + 1 ≤ n), Nat.min_eq_right (by omega : k ≤ n), take_snoc hx, lv_snoc, hc, if_neg (by decide)]
        · rw [Nat.min_eq_left (by omega), Nat.min_eq_left (by omega)]
  have := key l.length (Nat.le_refl _)
  rw [List.take_length, Nat.min_eq_left hn] at this
  exact this
include hrd
/-- It fits at each of its places. -/
theorem fits_one {t s u : Int} {k ci p : Nat} (hb : beginI l t = some k) (hc : commitI l t = some ci) (hp1 : k + 1 ≤ p) (hp2 : p ≤ ci) (hu : u < 0 ∨ u ≤ ci) : fitsB l t s p u = true := by
  unfold fitsB
  rw [List.all_eq_true]
  intro i hi
  have hil := List.mem_range.1 hi
  unfold okAt
  rw [List.getElem?_eq_getElem hil]
  have hx : l[i]? = some l[i] := List.getElem?_eq_getElem hil
  generalize l[i] = x at hx
  simp only
  obtain ⟨cx, hcx, hcp⟩ := commit_get hc
  have hct := (isC_iff.1 hcp).2
  have hcl := (List.getElem?_eq_some_iff.1 hcx).1
  unfold okEv
  by_cases ht : x.txn = t
  rotate_left
  · rw [if_pos (by simpa using ht)]
  rw [if_neg (by simpa using ht)]
  have hic : i ≤ ci := hok.commit_gt hx (by rw [ht]; exact hc)
  by_cases ho2 : x.op = 2
  · rw [if_pos (by simpa using ho2)]
    obtain ⟨k', hk', hki⟩ := hok.begin_lt hx (by omega)
    rw [ht, hb] at hk'; cases hk'
    have h1 := hrd i x hx ho2
    rw [ht] at h1
    have h2 := lv_same hok hsq hb (item := x.item) hx ht (i - (k + 1)) (by omega)
    have h3 := lv_same hok hsq hb (item := x.item) hcx hct (p - (k + 1)) (by omega)
    rw [show k + 1 + (i - (k + 1)) = i by omega] at h2
    rw [show k + 1 + (p - (k + 1)) = p by omega] at h3
    rw [lastM_lv hok (by omega), h3, ← h2, ← h1]
    simp [bne]
  · rw [if_neg (by simpa using ho2)]
    by_cases ho3 : x.op = 3
    rotate_left
    · rw [if_neg (by simpa using ho3)]
    rw [if_pos (by simpa using ho3)]
    have hcl2 : ∀ w : Int, w ≤ ci → cleanB l t x.item p w = true := fun w hw => by
      unfold cleanB
      rw [Bool.not_eq_true', List.any_eq_false]
      intro v hv hbad
      obtain ⟨j, y, hy, hyo, hyt, _⟩ := vers_get hv
      unfold otherB at hbad
      rw [comAt_of (hok.commit_at hy (isC_iff.2 ⟨hyo, hyt⟩))] at hbad
      simp at hbad
      have := (one_block hok hsq hb hcx hct j y (by omega) (by omega) hy).1
      exact hbad.1 (hyt.symm.trans this)
    rw [hcl2 _ (by split <;> omega)]
    simp
theorem serial_one {t : Int} (hc : comB l t = true) : serialB l t = true ∧ fitsB l t 0 (begAt l t + 1) (comAt l t) = true ∧ begAt l t + 1 ≤ (highM l t : Nat) := by
  obtain ⟨ci, hci⟩ := com_some hc
  obtain ⟨k, hb, hkc⟩ := com_begin hok hci
  have hbe : begAt l t = (k : Int) := by unfold begAt natOr; rw [hb]; rfl
  have hf := fits_one hok hrd hsq (s := 0) (u := (ci : Int)) hb hci (Nat.le_refl (k + 1)) (by omega) (.inr (Int.le_refl _))
  have hhi : k + 1 ≤ highM l t := by
    unfold highM
    cases hfi : l.findIdx? (opOf t) with
    | none => show k + 1 ≤ natOr (commitI l t); rw [hci]; exact hkc
    | some j =>
      rw [List.findIdx?_eq_some_iff_getElem] at hfi
      obtain ⟨g1, g2, _⟩ := hfi
      have hy : l[j]? = some l[j] := List.getElem?_eq_getElem g1
      unfold opOf at g2
      simp at g2
      obtain ⟨k', hk', hkj⟩ := hok.begin_lt hy (by omega)
      rw [g2.1, hb] at hk'; cases hk'
      exact hkj
  rw [comAt_of hci, hbe, show ((k : Int) + 1) = ((k + 1 : Nat) : Int) by omega]
  refine ⟨?_, hf, by omega⟩
  unfold serialB foundB
  rw [List.any_eq_true]
  refine ⟨0, List.mem_range.2 (by omega), ?_⟩
  rw [comAt_of hci, hbe]
  simpa using hf
theorem each_one {t : Int} (hc : comB l t = true) : eachB l t = true := by
  obtain ⟨ci, hci⟩ := com_some hc
  obtain ⟨k, hb, hkc⟩ := com_begin hok hci
  obtain ⟨cx, hcx, hcp⟩ := commit_get hci
  have hct := (isC_iff.1 hcp).2
  have hcl := (List.getElem?_eq_some_iff.1 hcx).1
  have inv : ∀ n, k + 1 + n ≤ ci → (eachTo l t k n).1 = ((k + n : Nat) : Int) ∧ (eachTo l t k n).2.2 = true := by
    intro n
    induction n with
    | zero => intro _; exact ⟨rfl, rfl⟩
    | succ n ih =>
      intro hn
      obtain ⟨e1, e2⟩ := ih (by omega)
      obtain ⟨x, hx⟩ := get_of (l := l) (i := k + 1 + n) (by omega)
      have ht := (one_block hok hsq hb hcx hct (k + 1 + n) x (by omega) (by omega) hx).1
      rw [eachTo_succ]
      unfold eachS
      rw [hx]
      simp only
      rw [if_pos (by simpa using ht)]
      refine ⟨by show ((k + 1 + n : Nat) : Int) = _; congr 1; omega, ?_⟩
      simp only
      rw [e2, Bool.true_and, Bool.or_eq_true]
      right
      unfold foundB
      rw [List.any_eq_true]
      refine ⟨0, List.mem_range.2 (by omega), ?_⟩
      rw [e1, show ((k + n : Nat) : Int) + 1 + ((0 : Nat) : Int) = ((k + 1 + n : Nat) : Int) by omega]
      exact fits_one hok hrd hsq hb hci (by omega) (by omega) (.inl (by omega))
  unfold eachB
  rw [hb, hci]
  exact (inv (ci - (k + 1)) (by omega)).2
theorem fitsM_one (T : List Int) : fitsM l T = true := fitsM_iff.2 fun t hc => by
  unfold okT
  split
  · exact (serial_one hok hrd hsq hc).1
  · exact each_one hok hrd hsq hc
/-- All arcs lead on. -/
theorem arc_on {rs : List Arc} (ha : ArcsOf l rs) {x : Arc} (hx : x ∈ rs) : comAt l x.a < comAt l x.b := by
  by_cases hk : x.kind = 3
  · have hpl : ∀ t, comB l t = true → PlaceIs l t (begAt l t + 1) := fun t ht => (serial_one hok hrd hsq ht).2
    have h1 := ser_rw hok ha hpl hx hk
    obtain ⟨hne, hca, hcb, _⟩ := arc_iff.1 ((ha.2 x).1 hx)
    obtain ⟨ca, hca'⟩ := com_some hca
    obtain ⟨cb, hcb'⟩ := com_some hcb
    obtain ⟨k, hb, hkc⟩ := com_begin hok hca'
    have hbe : begAt l x.a = (k : Int) := by unfold begAt natOr; rw [hb]; rfl
    rw [hbe, comAt_of hcb'] at h1
    rw [comAt_of hca', comAt_of hcb']
    obtain ⟨ax, hax, hap⟩ := commit_get hca'
    obtain ⟨bx, hbx, hbp⟩ := commit_get hcb'
    apply Classical.byContradiction
    intro hlt
    have := (one_block hok hsq hb hax (isC_iff.1 hap).2 cb bx (by omega) (by omega) hbx).1
    rw [(isC_iff.1 hbp).2] at this
    exact hne this.symm
  · exact fit_arc hok (fitsM_one hok hrd hsq []) ha hx hk
theorem order_one {rs : List Arc} (ha : ArcsOf l rs) : ∃ o, orderM rs (comL l).length (comL l) [] = some o ∧ SameEl o (comL l) := by
  have hn := comL_nodup rfl hok
  cases ho : orderM rs (comL l).length (comL l) [] with
  | none =>
    exfalso
    obtain ⟨L', hL, hcyc⟩ := order_none hn (Nat.le_refl _) ho
    have key : ∀ m : Nat, ∀ t ∈ L', ¬ comAt l t < (m : Int) := by
      intro m
      induction m with
      | zero => intro t ht h; unfold comAt at h; omega
      | succ m ih =>
        intro t ht h
        obtain ⟨x, hx, rfl, hxa⟩ := hcyc t ht
        have := arc_on hok hrd hsq ha hx
        exact ih x.a hxa (by omega)
    obtain ⟨t, ht⟩ := List.exists_mem_of_ne_nil L' hL
    exact key (natOr (commitI l t) + 1) t ht (by unfold comAt; omega)
  | some o =>
    obtain ⟨tl, h1, h2, _⟩ := order_some hn ho
    rw [List.nil_append] at h1
    subst h1
    exact ⟨_, rfl, h2⟩
theorem faults_one {rs : List Arc} (ha : ArcsOf l rs) : faultsF l rs = [] := by
  have hre : ∀ {s y : Int} {want : Int → Bool}, ReachR rs want s y → comAt l s ≤ comAt l y := fun h => by
    induction h with
    | refl => exact Int.le_refl _
    | @step x _ hx hk ih => have := arc_on hok hrd hsq ha hx; omega
  have h1 : ∀ {k : Int} {want : Int → Bool}, circB rs k want = false := fun {k want} => by
    rw [← Bool.not_eq_true, circB_iff]
    rintro ⟨x, hx, _, hr⟩
    have := arc_on hok hrd hsq ha hx
    have := hre hr
    omega
  have h2 : circsB rs = false := by
    unfold circsB
    rw [decide_eq_false_iff_not]
    rintro ⟨x, hx, hr⟩
    have := arc_on hok hrd hsq ha hx
    have := hre hr
    omega
  unfold faultsF
  rw [h1, h1, h1, h2, fit_ab hok (fitsM_one hok hrd hsq []), fit_bt hok (fitsM_one hok hrd hsq [])]
  rfl
omit hrd hsq in
theorem comL_rise : ∀ n, n ≤ l.length → (comL (l.take n)).Pairwise (fun a b => comAt l a < comAt l b) ∧ ∀ v ∈ comL (l.take n), comAt l v < n
  | 0, _ => ⟨by simp [comL], fun v hv => by simp [comL] at hv⟩
  | n + 1, hn => by
    obtain ⟨h1, h2⟩ := comL_rise n (by omega)
    obtain ⟨x, hx⟩ := get_of (l := l) (i := n) (by omega)
    rw [take_snoc hx, comL_snoc]
    by_cases ho : x.op = 4
    · rw [if_pos (by simpa using ho)]
      have hc := comAt_of (hok.commit_at hx (isC_iff.2 ⟨ho, rfl⟩))
      refine ⟨List.pairwise_append.2 ⟨h1, List.pairwise_singleton _ _, fun a ha b hb => ?_⟩, fun v hv => ?_⟩
      · rw [List.mem_singleton.1 hb, hc]; exact h2 a ha
      · rcases List.mem_append.1 hv with hv | hv
        · have := h2 v hv; omega
        · rw [List.mem_singleton.1 hv, hc]; omega
    · rw [if_neg (by simpa using ho), List.append_nil]
      exact ⟨h1, fun v hv => by have := h2 v hv; omega⟩
/-- An arc leads from an earlier place to a later one. -/
theorem arc_place {rs : List Arc} (ha : ArcsOf l rs) {x : Arc} (hx : x ∈ rs) {i j : Nat} (hi : (comL l)[i]? = some x.a) (hj : (comL l)[j]? = some x.b) : i < j := by
  have h := (comL_rise hok l.length (Nat.le_refl _)).1
  rw [List.take_length] at h
  have hon := arc_on hok hrd hsq ha hx
  apply Classical.byContradiction
  intro hlt
  by_cases e : i = j
  · subst e
    rw [hi] at hj
    have : x.a = x.b := Option.some.inj hj
    rw [this] at hon; omega
  · obtain ⟨g1, g2⟩ := List.getElem?_eq_some_iff.1 hi
    obtain ⟨g3, g4⟩ := List.getElem?_eq_some_iff.1 hj
    have := List.pairwise_iff_getElem.1 h j i g3 g1 (by omega)
    rw [g2, g4] at this
    omega
end
end Go.Proofs.Ytibhpoikhkokiaa.Hw
