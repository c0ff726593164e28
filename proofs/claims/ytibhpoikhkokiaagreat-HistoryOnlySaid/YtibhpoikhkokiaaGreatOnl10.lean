/- Vd HwFc Ve Vf HwRow Vg Vl Vo HwFe Vp (joined by merge.py) -/
import Derived.Test.YtibhpoikhkokiaaGreatOnl9
import Derived.Test.YtibhpoikhkokiaaGreatOnl3
import Derived.Test.YtibhpoikhkokiaaGreatOnl4
import Derived.ChangeReads
import Derived.ChangeSame
import Derived.Deep.Slices
import Derived.SizedLaws
import Derived.Test.YtibhpoikhkokiaaGreatRows
import Derived.ProofKit
/- Histories: what the fixed calls give. -/
set_option linter.unusedVariables false
set_option linter.unusedSimpArgs false
set_option maxRecDepth 20000
namespace Go.Proofs.YtibhpoikhkokiaaGreat.Hw
open Go Go.Proofs
def lostL : List Ev := [⟨1, 1, 0, 0, 0⟩, ⟨1, 2, 0, 0, 0⟩, ⟨2, 1, 1, 0, 1⟩, ⟨2, 2, 1, 0, 1⟩, ⟨3, 1, 1, 0, 2⟩, ⟨4, 1, 0, 0, 0⟩, ⟨3, 2, 1, 0, 2⟩, ⟨4, 2, 0, 0, 0⟩]
def oneL : List Ev := [⟨1, 2, 0, 0, 0⟩, ⟨2, 2, 1, 0, 1⟩, ⟨3, 2, 1, 0, 1⟩, ⟨4, 2, 0, 0, 0⟩, ⟨1, 1, 0, 0, 0⟩, ⟨2, 1, 1, 2, 1⟩, ⟨4, 1, 0, 0, 0⟩]
def badL : List Ev := [⟨1, 0, 0, 0, 0⟩]
theorem lost_valid : validM lostL = true := by kernel_rfl
theorem one_valid : validM oneL = true := by kernel_rfl
theorem bad_valid : validM badL = false := by kernel_rfl
theorem lost_ab : abTo lostL 8 = false := by kernel_rfl
theorem lost_bt : btTo lostL 8 = false := by kernel_rfl
theorem one_ab : abTo oneL 7 = false := by kernel_rfl
theorem one_bt : btTo oneL 7 = false := by kernel_rfl
theorem lost_serial : fitsM lostL all200 = false := by kernel_rfl
theorem lost_com : fitsM lostL [] = true := by kernel_rfl
theorem one_fits : fitsM oneL [1, 2] = true := by kernel_rfl
/-- All arcs, in some order. -/
def arcL (l : List Ev) : List Arc := (l.map (·.item)).flatMap (fun k => wwTo l k ((versM l k).length - 1)) ++ rdTo l l.length
theorem mem_arcL {l : List Ev} {x : Arc} : IsArc l x ↔ x ∈ arcL l := by
  unfold IsArc arcL
  rw [List.mem_append]
  refine or_congr_left ?_
  rw [List.mem_flatMap]
  constructor
  · rintro ⟨k, hk⟩
    refine ⟨k, vers_item (?_ : (versM l k).isEmpty = false), hk⟩
    cases he : (versM l k).isEmpty with
    | false => rfl
    | true => rw [List.isEmpty_iff.1 he] at hk; simp [wwTo] at hk
  · rintro ⟨k, _, hk⟩
    exact ⟨k, hk⟩
theorem arcs_by {l : List Ev} {rs : List Arc} (h : rs.Pairwise ltA) (h1 : ((arcL l).all (fun x => rs.contains x) && rs.all (fun x => (arcL l).contains x)) = true) : ArcsOf l rs := by
  rw [Bool.and_eq_true, List.all_eq_true, List.all_eq_true] at h1
  exact ⟨h, fun x => by rw [mem_arcL]; exact ⟨fun hx => List.contains_iff_mem.1 (h1.2 x hx), fun hx => List.contains_iff_mem.1 (h1.1 x hx)⟩⟩
def lostA : List Arc := [⟨1, 2, 1, 1⟩, ⟨2, 1, 3, 1⟩]
def oneA : List Arc := [⟨2, 1, 2, 1⟩]
theorem lost_arcs : ArcsOf lostL lostA := arcs_by (by unfold lostA ltA; simp) (by kernel_rfl)
theorem one_arcs : ArcsOf oneL oneA := arcs_by (by unfold oneA; simp) (by kernel_rfl)
/-- What stays in a set of places. -/
theorem reach_in {rs : List Arc} {want : Int → Bool} {s y : Int} {S : Int → Prop} (h0 : S s) (hc : ∀ x ∈ rs, want x.kind = true → S x.a → S x.b) (h : ReachR rs want s y) : S y := by
  induction h with
  | refl => exact h0
  | step _ hx hw ih => exact hc _ hx hw ih
theorem lost_mem {x : Arc} : x ∈ lostA ↔ x = ⟨1, 2, 1, 1⟩ ∨ x = ⟨2, 1, 3, 1⟩ := by unfold lostA; simp
theorem lost_c1 : circB lostA 1 wW = false := by
  rw [← Bool.not_eq_true, circB_iff]
  rintro ⟨x, hx, hk, hr⟩
  have := reach_in (S := fun z => z = 2) ?_ (fun y hy hw he => ?_) hr
  · rcases lost_mem.1 hx with rfl | rfl
    · exact absurd this (by decide)
    · exact absurd hk (by decide)
  · rcases lost_mem.1 hx with rfl | rfl
    · rfl
    · exact absurd hk (by decide)
  · rcases lost_mem.1 hy with rfl | rfl
    · rfl
    · exact absurd hw (by decide)
theorem lost_c2 : circB lostA 2 wP = false := by
  rw [← Bool.not_eq_true, circB_iff]
  rintro ⟨x, hx, hk, hr⟩
  rcases lost_mem.1 hx with rfl | rfl <;> exact absurd hk (by decide)
theorem lost_c3 : circB lostA 3 wP = true := by
  rw [circB_iff]
  refine ⟨⟨2, 1, 3, 1⟩, lost_mem.2 (.inr rfl), rfl, ?_⟩
  have h1 : ReachR lostA wP 1 1 := .refl
  exact .step (x := ⟨1, 2, 1, 1⟩) h1 (lost_mem.2 (.inl rfl)) rfl
theorem lost_faults : faultsF lostL lostA = [sRw] := by
  unfold faultsF
  rw [show lostL.length = 8 from rfl, lost_ab, lost_bt, lost_c1, lost_c2, lost_c3]
  rfl
theorem strict_one : ∀ {a b : List Int}, Strict a → Strict b → (∀ x, x ∈ a ↔ x ∈ b) → a = b := fun {a b} ha hb h => by
  refine List.Perm.eq_of_pairwise (le := fun x y => x < y) (fun x y _ _ h1 h2 => by omega) ha hb ?_
  exact (List.perm_ext_iff_of_nodup (strict_nodup ha) (strict_nodup hb)).2 h
theorem sort_by {a b : List Int} (hb : Strict b) (ha : a.Nodup) (h : ∀ x, x ∈ a ↔ x ∈ b) : sortM a = b := strict_one (strict_sort ha) hb fun x => sortM_mem.trans (h x)
theorem lost_order : orderM lostA (comL lostL).length (comL lostL) [] = none := by
  have e : comL lostL = [1, 2] := by rfl
  rw [e]
  show orderM lostA (1 + 1) [1, 2] [] = none
  unfold orderM
  have hs : sortM [1, 2] = [1, 2] := sort_by (by unfold Strict; simp) (by simp) (fun x => Iff.rfl)
  have hf : freeM lostA [1, 2] = none := by unfold freeM; rw [hs]; rfl
  rw [hf]; rfl
theorem one_order : orderM oneA (comL oneL).length (comL oneL) [] = some [2, 1] := by
  have e : comL oneL = [2, 1] := by rfl
  rw [e]
  show orderM oneA (1 + 1) [2, 1] [] = some [2, 1]
  have hs : sortM [2, 1] = [1, 2] := sort_by (by unfold Strict; simp) (by simp) (fun x => by simp [or_comm])
  have hf : freeM oneA [2, 1] = some 2 := by unfold freeM; rw [hs]; rfl
  have hs1 : sortM [1] = [1] := sort_by (by unfold Strict; simp) (by simp) (fun x => Iff.rfl)
  have hf1 : freeM oneA [1] = some 1 := by unfold freeM; rw [hs1]; rfl
  unfold orderM
  rw [hf]
  show orderM oneA (0 + 1) (takeOut [2, 1] 2) ([] ++ [2]) = _
  rw [show takeOut [2, 1] 2 = [1] by rfl]
  unfold orderM
  rw [hf1]
  rfl
theorem lost_anom {E : Int → List Int} {ks : List Int} (G : GraphOf lostA wA E) (hs : Strict ks) (hk : ∀ x, x ∈ ks ↔ (E x).isEmpty = false) : anomF E ks = some [1, 2] := by
  have mem : ∀ x y, y ∈ E x ↔ (x = 1 ∧ y = 2) ∨ (x = 2 ∧ y = 1) := fun x y => by
    rw [(G x).2 y]
    constructor
    · rintro ⟨a, ha, rfl, rfl, _⟩
      rcases lost_mem.1 ha with rfl | rfl
      · exact .inl ⟨rfl, rfl⟩
      · exact .inr ⟨rfl, rfl⟩
    · rintro (⟨rfl, rfl⟩ | ⟨rfl, rfl⟩)
      · exact ⟨_, lost_mem.2 (.inl rfl), rfl, rfl, rfl⟩
      · exact ⟨_, lost_mem.2 (.inr rfl), rfl, rfl, rfl⟩
  have e1 : E 1 = [2] := strict_one (G 1).1 (by unfold Strict; simp) fun y => by rw [mem]; simp
  have e2 : E 2 = [1] := strict_one (G 2).1 (by unfold Strict; simp) fun y => by rw [mem]; simp
  have e3 : ks = [1, 2] := strict_one hs (by unfold Strict; simp) fun x => by
    rw [hk]
    constructor
    · intro h
      cases hE : E x with
      | nil => rw [hE] at h; cases h
      | cons y r =>
        have := (mem x y).1 (by rw [hE]; exact List.mem_cons_self)
        simp; omega
    · intro h
      simp at h
      rcases h with rfl | rfl
      · rw [e1]; rfl
      · rw [e2]; rfl
  have w1 : ∀ k x, WalkR E 1 k x ↔ (k = 0 ∧ x = 1) ∨ (k = 1 ∧ x = 2) := fun k x => by
    constructor
    · intro h
      induction h with
      | zero => exact .inl ⟨rfl, rfl⟩
      | @succ k x y h1 h2 _ ih => have := (mem x y).1 h2; omega
    · rintro (⟨rfl, rfl⟩ | ⟨rfl, rfl⟩)
      · exact .zero
      · exact .succ (by decide) ((mem 2 1).2 (.inr ⟨rfl, rfl⟩)) .zero
  have s1 : shortF E 1 = some [1, 2] := by
    refine shortF_eq ⟨fun z => if z = 1 then some 0 else if z = 2 then some 1 else none, fun x k => ?_, ?_⟩
    · simp only [w1]
      constructor
      · intro h
        split at h
        · cases h; rename_i e; exact ⟨.inl ⟨rfl, e⟩, fun j hj => Nat.zero_le _⟩
        · split at h
          · cases h; rename_i e1 e2; exact ⟨.inr ⟨rfl, e2⟩, fun j hj => by omega⟩
          · cases h
      · rintro ⟨⟨rfl, rfl⟩ | ⟨rfl, rfl⟩, _⟩ <;> rfl
    · refine .go (b := 2) ?_ (by decide) (.fin ?_)
      · unfold bestM; rw [e1]; rfl
      · unfold bestM; rw [e2]; rfl
  have s2 : shortF E 2 = none := by
    refine shortF_eq ⟨fun z => if z = 2 then some 0 else none, fun x k => ?_, ?_⟩
    · constructor
      · intro h
        replace h : (if x = 2 then some 0 else none : Option Nat) = some k := h
        split at h
        · cases h; rename_i e; rw [e]; exact ⟨.zero, fun j hj => Nat.zero_le _⟩
        · cases h
      · rintro ⟨h, _⟩
        cases h with
        | zero => rfl
        | succ h1 h2 h3 => have := (mem _ _).1 h2; omega
    · refine .no ?_
      unfold bestM; rw [e2]; rfl
  rw [e3]
  unfold anomF
  rw [List.foldl_cons, List.foldl_cons, List.foldl_nil]
  unfold anS
  rw [s1, s2]
theorem one_only : onlyM oneL [1] = [⟨1, 1, 0, 0, 0⟩, ⟨2, 1, 1, 0, 1⟩, ⟨4, 1, 0, 0, 0⟩] := by rfl
end Go.Proofs.YtibhpoikhkokiaaGreat.Hw

/- What functions of the program come to, by the evaluator: printed by a program of this session (gen.py) and checked here. -/
set_option linter.unusedVariables false
set_option maxRecDepth 100000
namespace Go.Proofs.YtibhpoikhkokiaaGreat.Hw
open Go Go.Proofs

/-- justiciar justiciarref18.SameInts -/
def f25 (pa_A : Option Addr) (pa_n pa_c : Nat) (pb_A : Option Addr) (pb_n pb_c : Nat) (H : Hp) (Q : Value → Hp → Prop) : Prop :=
  cnd ((((pa_n : Nat) : Int) : Int) != ((pb_n : Nat) : Int)) (Q (.bool false) H) (LoopF (σ := (Int × Unit) × Unit) ((0, ()), ()) H fun s1 H2 next3 => cnd (decide ((s1.1.1 : Int) < ((pa_n : Nat) : Int))) (0 ≤ (s1.1.1 : Int)
    ∧ (s1.1.1 : Int) < ((pa_n : Nat) : Int) ∧ onPtr pa_A fun b4 o4 => ∃ x5 : Int, cl H2 b4 (o4 + (s1.1.1 : Int).toNat * 1) = some (.int .i64 x5) ∧ 0 ≤ (s1.1.1 : Int) ∧ (s1.1.1 : Int) < ((pb_n : Nat) : Int) ∧ onPtr pb_A
    fun b6 o6 => ∃ x7 : Int, cl H2 b6 (o6 + (s1.1.1 : Int).toNat * 1) = some (.int .i64 x7) ∧ cnd ((x5 : Int) != x7) (Q (.bool false) H2) (KeepX [some (.v (.slice pa_A pa_n pa_c)), some (.v (.slice pb_A pb_n pb_c)), some
    (.v (.int .i64 ((pa_n : Nat) : Int)))] [] ∧ next3 ((IntKind.i64.wrap (s1.1.1 + 1), ()), ()) H2)) (Q (.bool true) H2))
noncomputable def fcx25 : Cx := cx 26 [] [(4, ⟨[0, 1, 12], [], [(13, .int .i64)], []⟩)] [(6, (.look 0 (.look 1 (.look 2 (.look 3 (.look 4 (.look 5 (.look 6 (.look 7 (.look 8 .done))))))))))] []
theorem f25.eq (pa_A : Option Addr) (pa_n pa_c : Nat) (pb_A : Option Addr) (pb_n pb_c : Nat) (H : Hp) (Q : Value → Hp → Prop) : f25 pa_A pa_n pa_c pb_A pb_n pb_c H Q = wFun fcx25 Tryz.f25 [.slice pa_A pa_n pa_c, .slice pb_A pb_n pb_c] H Q := by kernel_rfl
theorem f25.ok (pa_A : Option Addr) (pa_n pa_c : Nat) (pb_A : Option Addr) (pb_n pb_c : Nat) {H : Hp} {Q : Value → Hp → Prop} (h : f25 pa_A pa_n pa_c pb_A pb_n pb_c H Q) : HCalls Tryz.prog 25 [.slice pa_A pa_n pa_c, .slice pb_A pb_n pb_c] H Q := hcalls_of (cxOk 26 [] [(4, ⟨[0, 1, 12], [], [(13, .int .i64)], []⟩)] [(6, (.look 0 (.look 1 (.look 2 (.look 3 (.look 4 (.look 5 (.look 6 (.look 7 (.look 8 .done))))))))))] []) Tryz.func25 (Eq.mp (f25.eq pa_A pa_n pa_c pb_A pb_n pb_c H Q) h)

end Go.Proofs.YtibhpoikhkokiaaGreat.Hw

/- Histories: awake (c11). -/
set_option linter.unusedVariables false
set_option linter.unusedSimpArgs false
set_option maxRecDepth 20000
namespace Go.Proofs.YtibhpoikhkokiaaGreat.Hw
open Go Go.Proofs
section
variable {H H' : Hp} {Q : Value → Hp → Prop}
/-- The same numbers. -/
theorem c25 {A B : Option Addr} {n k ca cb : Nat} {l r : List Int} (hA : SlAt inC H A n l) (hB : SlAt inC H B k r) (hq : Q (.bool (decide (l = r))) H) : HCalls Tryz.prog 25 [.slice A n ca, .slice B k cb] H Q := by
  refine f25.ok _ _ _ _ _ _ ?_
  unfold f25
  obtain rfl := hA.len
  obtain rfl := hB.len
  have hl1 := hA.lt
  have hl2 := hB.lt
  refine cndI (fun hne => ?_) fun heq => ?_
  · have : l ≠ r := fun e => by subst e; simp at hne
    rw [decide_eq_false this] at hq; exact hq
  have hlen : l.length = r.length := by
    have : ((l.length : Int) != (r.length : Int)) = false := heq
    simp at this; omega
  refine scan hl1 (fun i H' => H' = H ∧ l.take i = r.take i) ⟨rfl, by simp⟩ (fun i H2 next hi hI hnext => ?_) (fun H2 next hI => ?_)
  · obtain ⟨rfl, ht⟩ := hI
    obtain ⟨x, hx⟩ := get_of hi
    obtain ⟨y, hy⟩ := get_of (l := r) (i := i) (by omega)
    dsimp only
    refine cndT (decide_eq_true (by omega)) ⟨by omega, by omega, rd_in hA hx fun q o _ k1 => ⟨x, by simpa using k1, by omega, by omega, rd_in hB hy fun q o _ k2 => ⟨y, by simpa using k2, cndI (fun hne => ?_) fun he => ⟨rfl, hnext H2 ⟨rfl, ?_⟩⟩⟩⟩⟩
    · have : l ≠ r := fun e => by
        subst e
        rw [hx] at hy; cases hy; simp at hne
      rw [decide_eq_false this] at hq; exact hq
    · have he : x = y := by simpa using he
      rw [take_snoc hx, take_snoc hy, ht, he]
  · obtain ⟨rfl, ht⟩ := hI
    rw [List.take_length, hlen, List.take_length] at ht
    dsimp only
    refine cndF (decide_eq_false (by omega)) ?_
    rw [decide_eq_true ht] at hq; exact hq
theorem c34 {t : Int} (hq : Q (.agg #[.int .i64 1, .int .i64 t, .int .i64 0, .int .i64 0, .int .i64 0]) H) : HCalls Tryz.prog 34 [.int .i64 t] H Q := by
  refine f34.ok _ ?_
  unfold f34; exact hq
theorem c35 {t i f s : Int} (hq : Q (.agg #[.int .i64 2, .int .i64 t, .int .i64 i, .int .i64 f, .int .i64 s]) H) : HCalls Tryz.prog 35 [.int .i64 t, .int .i64 i, .int .i64 f, .int .i64 s] H Q := by
  refine f35.ok _ _ _ _ ?_
  unfold f35; exact hq
theorem c36 {t i s : Int} (hq : Q (.agg #[.int .i64 3, .int .i64 t, .int .i64 i, .int .i64 0, .int .i64 s]) H) : HCalls Tryz.prog 36 [.int .i64 t, .int .i64 i, .int .i64 s] H Q := by
  refine f36.ok _ _ _ ?_
  unfold f36; exact hq
theorem c37 {t : Int} (hq : Q (.agg #[.int .i64 4, .int .i64 t, .int .i64 0, .int .i64 0, .int .i64 0]) H) : HCalls Tryz.prog 37 [.int .i64 t] H Q := by
  refine f37.ok _ ?_
  unfold f37; exact hq
/-- A new block of fixed cells as a slice. -/
theorem fresh_sl {α : Type} {f : α → List Value} {g ty : Nat} {l : List α} {vs : List Value} (hv : vs = l.flatMap f) (hs : l.length < huge) : SlAt f (upd g (.cells vs.toArray ty (0, 0)) H) (some ⟨g, 0, none⟩) l.length l :=
  ⟨rfl, .inr ⟨g, 0, rfl, fun j v hj => by rw [cl_cells upd_at, Nat.zero_add, hv]; exact hj⟩, hs⟩
theorem fitsQ_of {l : List Ev} {T : List Int} {v f : Bool} (hv : validM l = v) (hf : fitsM l T = f) (h : ∀ H', Ext H H' → Q (.tuple #[.bool (v && f), .int .i64 (if v then 0 else 2)]) H') : FitsQ H Q l T := by
  subst hv hf; exact h
theorem c11 (hq : ∀ H', Ext H H' → Q (.bool true) H') : HCalls Tryz.prog 11 [] H Q := by
  refine f11.ok ?_
  unfold f11
  refine c34 ⟨_, _, _, _, _, rfl, c34 ⟨_, _, _, _, _, rfl, c35 ⟨_, _, _, _, _, rfl, c35 ⟨_, _, _, _, _, rfl, c36 ⟨_, _, _, _, _, rfl, c37 ⟨_, _, _, _, _, rfl, c36 ⟨_, _, _, _, _, rfl, c37 ⟨_, _, _, _, _, rfl, fun g57 hg57 => ?_⟩⟩⟩⟩⟩⟩⟩⟩
  have hL := fresh_sl (H := H) (g := g57) (ty := 35) (f := evC) (l := lostL) (vs := lostL.flatMap evC) rfl (by unfold huge; decide)
  have x58 : Ext H (upd g57 (Obj.cells (lostL.flatMap evC).toArray 35 (0, 0)) H) := Ext.new hg57
  change HCalls _ _ _ (upd g57 (Obj.cells (lostL.flatMap evC).toArray 35 (0, 0)) H) _
  generalize (upd g57 (Obj.cells (lostL.flatMap evC).toArray 35 (0, 0)) H) = H58 at hL x58 ⊢
  have hL : SlAt evC H58 (some ⟨g57, 0, none⟩) 8 lostL := hL
  refine c13 hL (Nat.le_refl _) ⟨(fun h => by rw [lost_valid] at h; cases h), fun _ rs A61 c61 H60 ha x60 S61 _ => ⟨_, _, _, _, rfl, ?_⟩⟩
  obtain rfl := arcs_one ha lost_arcs
  rw [lost_faults] at S61 ⊢
  clear ha
  have hL60 := hL.ext x60
  refine c17 hL60 (Nat.le_refl _) (fitsQ_of lost_valid lost_serial fun H64 x64 => ⟨_, _, rfl, ?_⟩)
  have hL64 := hL60.ext x64
  refine c16 hL64 (Nat.le_refl _) (fitsQ_of lost_valid lost_com fun H68 x68 => ⟨_, _, rfl, ?_⟩)
  have hL68 := hL64.ext x68
  refine c18 hL68 (Nat.le_refl _) ⟨(fun h => by rw [lost_valid] at h; cases h), fun _ rs A73 c73 H72 ha x72 S73 _ => ⟨_, _, _, _, rfl, ?_⟩⟩
  obtain rfl := arcs_one ha lost_arcs
  have hL72 := hL68.ext x72
  refine c29 hL72 (Nat.le_refl _) ⟨(fun h => by rw [lost_valid] at h; cases h), (fun _ h => by rw [show lostL.length = 8 from rfl, lost_ab, lost_bt] at h; cases h), fun _ _ rs ha => ⟨fun ho H76 x76 => ⟨_, _, _, _, _, rfl, ?_⟩, (fun o ho => by rw [arcs_one ha lost_arcs, lost_order] at ho; cases ho)⟩⟩
  have hL76 := hL72.ext x76
  refine c23 hL76 (Nat.le_refl _) ⟨(fun h => by rw [lost_valid] at h; cases h), fun _ rs E ks ha G hs hk => ?_⟩
  obtain rfl := arcs_one ha lost_arcs
  rw [lost_anom G hs hk]
  refine ⟨(fun h => by cases h), fun o ho b82 c82 H81 x81 S82 _ => ⟨_, _, _, _, rfl, ?_⟩⟩
  cases ho
  refine c34 ⟨_, _, _, _, _, rfl, c35 ⟨_, _, _, _, _, rfl, c36 ⟨_, _, _, _, _, rfl, c37 ⟨_, _, _, _, _, rfl, c34 ⟨_, _, _, _, _, rfl, c35 ⟨_, _, _, _, _, rfl, c37 ⟨_, _, _, _, _, rfl, fun g133 hg133 => ?_⟩⟩⟩⟩⟩⟩⟩
  have hO := fresh_sl (H := H81) (g := g133) (ty := 35) (f := evC) (l := oneL) (vs := oneL.flatMap evC) rfl (by unfold huge; decide)
  have x134 : Ext H81 (upd g133 (Obj.cells (oneL.flatMap evC).toArray 35 (0, 0)) H81) := Ext.new hg133
  change HCalls _ _ _ (upd g133 (Obj.cells (oneL.flatMap evC).toArray 35 (0, 0)) H81) _
  generalize (upd g133 (Obj.cells (oneL.flatMap evC).toArray 35 (0, 0)) H81) = H134 at hO x134 ⊢
  have hO : SlAt evC H134 (some ⟨g133, 0, none⟩) 7 oneL := hO
  refine c29 hO (Nat.le_refl _) ⟨(fun h => by rw [one_valid] at h; cases h), (fun _ h => by rw [show oneL.length = 7 from rfl, one_ab, one_bt] at h; cases h), fun _ _ rs ha => ?_⟩
  obtain rfl := arcs_one ha one_arcs
  rw [one_order]
  refine ⟨(fun h => by cases h), fun o ho A137 c137 H136 x136 S137 _ => ⟨_, _, _, _, _, rfl, fun g140 hg140 => ?_⟩⟩
  cases ho
  have h12 := fresh_sl (H := H136) (g := g140) (ty := 3) (f := inC) (l := [1, 2]) (vs := [Value.int .i64 1, .int .i64 2]) rfl (by unfold huge; decide)
  have x141 : Ext H136 (upd g140 (Obj.cells [Value.int .i64 1, .int .i64 2].toArray 3 (0, 0)) H136) := Ext.new hg140
  generalize (upd g140 (Obj.cells [Value.int .i64 1, .int .i64 2].toArray 3 (0, 0)) H136) = H141 at h12 x141 ⊢
  have hO141 := (hO.ext x136).ext x141
  refine c12 hO141 (Nat.le_refl _) h12 (fitsQ_of one_valid one_fits fun H143 x143 => ⟨_, _, rfl, fun g146 hg146 => ?_⟩)
  have h1 := fresh_sl (H := H143) (g := g146) (ty := 3) (f := inC) (l := [1]) (vs := [Value.int .i64 1]) rfl (by unfold huge; decide)
  have x147 : Ext H143 (upd g146 (Obj.cells [Value.int .i64 1].toArray 3 (0, 0)) H143) := Ext.new hg146
  generalize (upd g146 (Obj.cells [Value.int .i64 1].toArray 3 (0, 0)) H143) = H147 at h1 x147 ⊢
  have hO147 := (hO141.ext x143).ext x147
  refine c31 hO147 (Nat.le_refl _) h1 ⟨(fun h => by rw [one_valid] at h; cases h), fun _ A150 c150 H149 x149 S150 _ => ⟨_, _, _, _, rfl, c34 ⟨_, _, _, _, _, rfl, fun g159 hg159 => ?_⟩⟩⟩
  rw [one_only] at S150 ⊢
  have hB := fresh_sl (H := H149) (g := g159) (ty := 35) (f := evC) (l := badL) (vs := badL.flatMap evC) rfl (by unfold huge; decide)
  have x160 : Ext H149 (upd g159 (Obj.cells (badL.flatMap evC).toArray 35 (0, 0)) H149) := Ext.new hg159
  change HCalls _ _ _ (upd g159 (Obj.cells (badL.flatMap evC).toArray 35 (0, 0)) H149) _
  generalize (upd g159 (Obj.cells (badL.flatMap evC).toArray 35 (0, 0)) H149) = H160 at hB x160 ⊢
  have hB : SlAt evC H160 (some ⟨g159, 0, none⟩) 1 badL := hB
  refine c18 hB (Nat.le_refl _) ⟨fun _ H162 x162 => ⟨_, _, _, _, rfl, ?_⟩, (fun h => by rw [bad_valid] at h; cases h)⟩
  have y81 : Ext H81 H162 := (((((x134.trans x136).trans x141).trans x143).trans x147).trans x149).trans (x160.trans x162)
  have y149 : Ext H149 H162 := x160.trans x162
  have y136 : Ext H136 H162 := ((x141.trans x143).trans x147).trans (x149.trans y149)
  have y72 : Ext H72 H162 := (x76.trans x81).trans y81
  have y60 : Ext H60 H162 := (x64.trans x68).trans (x72.trans y72)
  have y0 : Ext H H162 := x58.trans (x60.trans y60)
  have T61 := S61.ext y60
  have T73 := S73.ext y72
  have T82 := S82.ext y81
  have T137 := S137.ext y136
  have T150 := S150.ext y149
  refine jn_intro (fun J => J false) ?_ fun J hJ => cndF rfl (cndF rfl hJ)
  refine cndF rfl (jn_intro (fun J => ∀ H', Ext H H' → J true H') (fun H' hx => hq H' hx) fun J hJ => ⟨by omega, by decide, ?_⟩)
  refine at_cells T61.cells (by simp [stC]) fun b167 o167 _ k167 => ⟨sRw, k167 0 _ rfl, cndT (beq_iff_eq.2 rfl) (cndT rfl (cndT rfl (cndT rfl (cndT rfl (cndT rfl ⟨by omega, by decide, ?_⟩)))))⟩
  refine rd_ar (i := 0) T73 rfl fun q o _ k1 k2 k3 k4 => ⟨1, by simpa using k1, 2, by simpa using k2, 1, by simpa using k3, 1, by simpa using k4, cndT rfl ⟨by omega, by decide, ?_⟩⟩
  refine rd_ar (i := 1) T73 rfl fun q o _ k1 k2 k3 k4 => ⟨2, by simpa using k1, 1, by simpa using k2, 3, by simpa using k3, 1, by simpa using k4, cndT rfl (cndT rfl (cndT rfl (cndT rfl fun g179 hg179 => ?_)))⟩
  have hw := fresh_sl (H := H162) (g := g179) (ty := 3) (f := inC) (l := [1, 2]) (vs := [Value.int .i64 1, .int .i64 2]) rfl (by unfold huge; decide)
  have x180 : Ext H162 (upd g179 (Obj.cells [Value.int .i64 1, .int .i64 2].toArray 3 (0, 0)) H162) := Ext.new hg179
  generalize (upd g179 (Obj.cells [Value.int .i64 1, .int .i64 2].toArray 3 (0, 0)) H162) = H180 at hw x180 ⊢
  refine c25 (T82.ext x180) hw ⟨_, rfl, cndT rfl (cndT rfl (cndT rfl fun g184 hg184 => ?_))⟩
  have hw2 := fresh_sl (H := H180) (g := g184) (ty := 3) (f := inC) (l := [2, 1]) (vs := [Value.int .i64 2, .int .i64 1]) rfl (by unfold huge; decide)
  have x185 : Ext H180 (upd g184 (Obj.cells [Value.int .i64 2, .int .i64 1].toArray 3 (0, 0)) H180) := Ext.new hg184
  generalize (upd g184 (Obj.cells [Value.int .i64 2, .int .i64 1].toArray 3 (0, 0)) H180) = H185 at hw2 x185 ⊢
  refine c25 ((T137.ext x180).ext x185) hw2 ⟨_, rfl, cndT rfl (cndT rfl (cndT rfl (cndT rfl ⟨by omega, by decide, ?_⟩)))⟩
  refine rd_ev (i := 1) ((T150.ext x180).ext x185) rfl fun q o _ k1 k2 k3 k4 k5 => ⟨0, by simpa using k4, cndT rfl (cndT rfl (cndT rfl ?_))⟩
  refine c14 ((((((hL76.ext x81).ext y81).ext x180).ext x185))) fun H192 x192 => ⟨true, by rw [lost_valid], hJ H192 ((((y0.trans x180).trans x185).trans x192))⟩
end
end Go.Proofs.YtibhpoikhkokiaaGreat.Hw

/- Histories: what fits has only faults of the third kind (plain law). -/
set_option linter.unusedVariables false
set_option linter.unusedSimpArgs false
namespace Go.Proofs.YtibhpoikhkokiaaGreat.Hw
open Go Go.Proofs
section
variable {l : List Ev} {t : Int}
theorem comAt_of {c : Nat} (h : commitI l t = some c) : comAt l t = (c : Int) := by unfold comAt natOr; rw [h]; rfl
theorem com_some (h : comB l t = true) : ∃ c, commitI l t = some c := Option.isSome_iff_exists.1 h
/-- What a read saw: its own, or what was last there at a place before it. -/
def SawB (l : List Ev) (i : Nat) (x : Ev) : Prop := ∃ p : Int, p ≤ i ∧ x.frm = (if wroteM (l.take i) x.txn x.item then x.txn else lastM l x.item p)
theorem okEv_read {st p u : Int} {i : Nat} {x : Ev} (h : okEv l x.txn st p u i x = true) (ho : x.op = 2) (hw : wantedB st x = true) : x.frm = (if wroteM (l.take i) x.txn x.item then x.txn else lastM l x.item p) := by
  unfold okEv at h
  rw [if_neg (by simp), if_pos (by simp [ho]), hw, Bool.true_and, Bool.not_eq_true'] at h
  simpa using h
theorem fits_at {st p u : Int} {i : Nat} {x : Ev} (h : fitsB l t st p u = true) (hx : l[i]? = some x) : okEv l t st p u i x = true := by
  unfold fitsB at h
  rw [List.all_eq_true] at h
  have := h i (List.mem_range.2 (List.getElem?_eq_some_iff.1 hx).1)
  unfold okAt at this
  rw [hx] at this
  exact this
theorem found_ex {st lo hi u : Int} (h : foundB l t st lo hi u = true) : ∃ p, lo ≤ p ∧ p ≤ hi ∧ fitsB l t st p u = true := by
  unfold foundB at h
  obtain ⟨k, hk, h2⟩ := List.any_eq_true.1 h
  have := List.mem_range.1 hk
  exact ⟨lo + k, by omega, by omega, h2⟩
theorem serial_saw {i : Nat} {x : Ev} (hs : serialB l x.txn = true) (hx : l[i]? = some x) (ho : x.op = 2) : SawB l i x := by
  obtain ⟨p, h1, h2, h3⟩ := found_ex hs
  refine ⟨p, ?_, okEv_read (fits_at h3 hx) ho (by unfold wantedB; rfl)⟩
  have : highM l x.txn ≤ i := by
    unfold highM
    have hop : opOf x.txn x = true := by unfold opOf; simp [ho]
    cases hf : l.findIdx? (opOf x.txn) with
    | none =>
      rw [List.findIdx?_eq_none_iff] at hf
      have := hf x (List.mem_of_getElem? hx)
      rw [hop] at this; cases this
    | some j =>
      rw [List.findIdx?_eq_some_iff_getElem] at hf
      obtain ⟨g1, _, g3⟩ := hf
      show j ≤ i
      apply Nat.le_of_not_lt
      intro hlt
      have := g3 i hlt
      rw [(List.getElem?_eq_some_iff.1 hx).2, hop] at this
      exact this rfl
  omega
/-- What 'each' has found so far. -/
theorem each_inv {k n : Nat} : (eachTo l t k n).2.2 = true → ((eachTo l t k n).2.1 ≠ 0 → ∃ (i0 : Nat) (lo : Int), i0 < k + 1 + n ∧ foundB l t (eachTo l t k n).2.1 lo i0 (-1) = true) ∧
    ∀ (i : Nat) (x : Ev), k < i → i < k + 1 + n → l[i]? = some x → x.txn = t → x.stmt ≠ 0 → ∃ (i0 : Nat) (lo : Int), i0 ≤ i ∧ foundB l t x.stmt lo i0 (-1) = true := by
  induction n with
  | zero => intro _; exact ⟨fun h => absurd rfl h, fun i x h1 h2 => by omega⟩
  | succ n ih =>
    intro h
    have hpre : (eachTo l t k n).2.2 = true := by
      cases hh : (eachTo l t k n).2.2 with
      | true => rfl
      | false => rw [eachTo_false hh (Nat.le_succ n)] at h; cases h
    obtain ⟨h1, h2⟩ := ih hpre
    rw [eachTo_succ] at h ⊢
    unfold eachS at h ⊢
    cases hx : l[k + 1 + n]? with
    | none =>
      rw [hx] at h
      refine ⟨fun hne => ?_, fun i x hki hi hxi htx hs => ?_⟩
      · obtain ⟨i0, lo, a, b⟩ := h1 hne
        exact ⟨i0, lo, by omega, b⟩
      · have : i ≠ k + 1 + n := fun e => by rw [e, hx] at hxi; cases hxi
        exact h2 i x hki (by omega) hxi htx hs
    | some y =>
      rw [hx] at h
      simp only at h ⊢
      cases hy : y.txn == t with
      | false =>
        rw [hy] at h
        simp only [Bool.false_eq_true, if_false] at h ⊢
        refine ⟨fun hne => ?_, fun i x hki hi hxi htx hs => ?_⟩
        · obtain ⟨i0, lo, a, b⟩ := h1 hne
          exact ⟨i0, lo, by omega, b⟩
        · have : i ≠ k + 1 + n := fun e => by rw [e, hx] at hxi; cases hxi; rw [htx] at hy; simp at hy
          exact h2 i x hki (by omega) hxi htx hs
      | true =>
        rw [hy] at h
        simp only [if_true] at h ⊢
        rw [Bool.and_eq_true, Bool.or_eq_true] at h
        have key : y.stmt ≠ 0 → ∃ (i0 : Nat) (lo : Int), i0 ≤ k + 1 + n ∧ foundB l t y.stmt lo i0 (-1) = true := fun hne => by
          rcases h.2 with he | hf
          · have he : y.stmt = (eachTo l t k n).2.1 := by simpa using he
            rw [he] at hne ⊢
            obtain ⟨i0, lo, a, b⟩ := h1 hne
            exact ⟨i0, lo, by omega, b⟩
          · exact ⟨k + 1 + n, _, Nat.le_refl _, hf⟩
        refine ⟨fun hne => ?_, fun i x hki hi hxi htx hs => ?_⟩
        · obtain ⟨i0, lo, a, b⟩ := key hne
          exact ⟨i0, lo, by omega, b⟩
        · by_cases e : i = k + 1 + n
          · rw [e, hx] at hxi; cases hxi
            obtain ⟨i0, lo, a, b⟩ := key hs
            exact ⟨i0, lo, by omega, b⟩
          · exact h2 i x hki (by omega) hxi htx hs
theorem read_parts (hok : OkTo l l.length) {i : Nat} {x : Ev} (hx : l[i]? = some x) (ho : x.op = 2) : x.stmt ≠ 0 := by
  have h := hok i x (List.getElem?_eq_some_iff.1 hx).1 hx
  unfold evOk at h
  rw [show (x.op == 1) = false by simp [ho], show (x.op == 2) = true by simp [ho]] at h
  simp only [Bool.false_eq_true, if_false, if_true, Bool.and_eq_true, decide_eq_true_eq] at h
  have := h.2.2.2.2.1
  omega
theorem each_saw (hok : OkTo l l.length) {i : Nat} {x : Ev} (hs : eachB l x.txn = true) (hx : l[i]? = some x) (ho : x.op = 2) (hc : comB l x.txn = true) : SawB l i x := by
  obtain ⟨c, hc⟩ := com_some hc
  obtain ⟨b, hb, hbi⟩ := hok.begin_lt hx (by rw [ho]; decide)
  have hci := hok.commit_gt hx hc
  have hne : i ≠ c := fun e => by
    obtain ⟨y, hy, hp⟩ := commit_get hc
    rw [← e, hx] at hy; cases hy
    have := (isC_iff.1 hp).1
    omega
  unfold eachB at hs
  rw [hb, hc] at hs
  obtain ⟨i0, lo, h1, h2⟩ := (each_inv hs).2 i x hbi (by show i < b + 1 + (c - (b + 1)); omega) hx rfl (read_parts hok hx ho)
  obtain ⟨p, _, h4, h5⟩ := found_ex h2
  exact ⟨p, by omega, okEv_read (fits_at h5 hx) ho (by unfold wantedB; simp)⟩
/-- A version that was last there is of one that had committed. -/
theorem lastM_com {item p : Int} : ∀ {vs : List Int} {s : Int}, (s = 0 ∨ s ∈ versM l item ∧ comAt l s < p) → (∀ v ∈ vs, v ∈ versM l item) → (vs.foldl (lastS l p) s = 0 ∨ vs.foldl (lastS l p) s ∈ versM l item ∧ comAt l (vs.foldl (lastS l p) s) < p)
  | [], s, h, _ => h
  | v :: r, s, h, hm => by
    rw [List.foldl_cons]
    refine lastM_com (vs := r) ?_ fun u hu => hm u (List.mem_cons_of_mem _ hu)
    unfold lastS
    by_cases e : comAt l v < p
    · rw [if_pos (decide_eq_true e)]; exact .inr ⟨hm v List.mem_cons_self, e⟩
    · rw [if_neg (by simpa using e)]; exact h
theorem vers_com {item v : Int} (h : v ∈ versM l item) : comB l v = true := by
  unfold versM at h
  obtain ⟨j, hj, hv⟩ := List.mem_filterMap.1 h
  cases hx : l[j]? with
  | none => rw [hx] at hv; cases hv
  | some x =>
    rw [hx] at hv
    simp only at hv
    split at hv
    · rename_i hc
      cases hv
      rw [Bool.and_eq_true] at hc
      exact com_ex.2 ⟨j, x, hx, isC_iff.2 ⟨by simpa using hc.1, rfl⟩⟩
    · cases hv
theorem saw_com {i : Nat} {x : Ev} (h : SawB l i x) : x.frm = x.txn ∨ x.frm = 0 ∨ comB l x.frm = true ∧ comAt l x.frm < i := by
  obtain ⟨p, hp, h⟩ := h
  split at h
  · exact .inl h
  · have := lastM_com (l := l) (item := x.item) (p := p) (vs := versM l x.item) (s := 0) (.inl rfl) fun v hv => hv
    change lastM l x.item p = 0 ∨ lastM l x.item p ∈ versM l x.item ∧ comAt l (lastM l x.item p) < p at this
    rw [← h] at this
    rcases this with h1 | ⟨h1, h2⟩
    · exact .inr (.inl h1)
    · exact .inr (.inr ⟨vers_com h1, by omega⟩)
theorem last_com (hok : OkTo l l.length) {t k : Int} {c : Nat} (hc : commitI l t = some c) : natOr (lastW l t k) ≤ c := by
  cases hw : lastW l t k with
  | none => exact Nat.zero_le _
  | some w =>
    obtain ⟨x, hx, hp, _⟩ := lastI_some hw
    have h := isW_iff.1 hp
    exact hok.commit_gt hx (by rw [h.2.1]; exact hc)
/-- The places of commits rise in the versions of an item. -/
theorem vers_rise (hok : OkTo l l.length) {k : Int} : ∀ n, n ≤ l.length → (versM (l.take n) k).Pairwise (fun a b => comAt l a < comAt l b) ∧ ∀ v ∈ versM (l.take n) k, comAt l v < n := by
  intro n
  induction n with
  | zero => intro _; rw [List.take_zero, vers_nil]; exact ⟨List.Pairwise.nil, fun v hv => by cases hv⟩
  | succ n ih =>
    intro hn
    obtain ⟨h1, h2⟩ := ih (by omega)
    obtain ⟨x, hx⟩ := get_of (l := l) (i := n) (by omega)
    rw [take_snoc hx, vers_snoc]
    by_cases hc : (x.op == 4 && wroteM (l.take n) x.txn k) = true
    · rw [if_pos hc]
      rw [Bool.and_eq_true] at hc
      have ho : x.op = 4 := by simpa using hc.1
      have hcx : comAt l x.txn = n := comAt_of (hok.commit_at hx (isC_iff.2 ⟨ho, rfl⟩))
      refine ⟨?_, fun v hv => ?_⟩
      · rw [List.pairwise_append]
        refine ⟨h1, List.pairwise_singleton _ _, fun a ha b hb => ?_⟩
        rw [List.mem_singleton.1 hb, hcx]; exact h2 a ha
      · rcases List.mem_append.1 hv with hv | hv
        · have := h2 v hv; omega
        · rw [List.mem_singleton.1 hv, hcx]; omega
    · rw [if_neg hc, List.append_nil]
      exact ⟨h1, fun v hv => by have := h2 v hv; omega⟩
theorem fit_saw (hok : OkTo l l.length) {T : List Int} (hf : fitsM l T = true) {i : Nat} {x : Ev} (hx : l[i]? = some x) (ho : x.op = 2) (hc : comB l x.txn = true) : SawB l i x := by
  have h := fitsM_iff.1 hf _ hc
  unfold okT at h
  split at h
  · exact serial_saw h hx ho
  · exact each_saw hok h hx ho hc
theorem fit_ab (hok : OkTo l l.length) {T : List Int} (hf : fitsM l T = true) : abTo l l.length = false := by
  cases h : abTo l l.length with
  | false => rfl
  | true =>
    obtain ⟨i, x, _, hx, hp⟩ := any_take.1 h
    unfold badRead at hp
    simp only [Bool.and_eq_true, beq_iff_eq, bne_iff_ne, ne_eq, Bool.not_eq_true'] at hp
    obtain ⟨⟨h1, h2, h3, h4⟩, h5⟩ := hp
    rcases saw_com (fit_saw hok hf hx h1 h4) with h | h | ⟨h, _⟩
    · exact absurd h h3
    · exact absurd h h2
    · rw [h] at h5; cases h5
theorem fit_bt (hok : OkTo l l.length) {T : List Int} (hf : fitsM l T = true) : btTo l l.length = false := by
  cases h : btTo l l.length with
  | false => rfl
  | true =>
    unfold btTo at h
    obtain ⟨i, _, hp⟩ := List.any_eq_true.1 h
    unfold btAt at hp
    cases hx : l[i]? with
    | none => rw [hx] at hp; cases hp
    | some x =>
      rw [hx] at hp
      unfold badRead at hp
      simp only [Bool.and_eq_true, beq_iff_eq, bne_iff_ne, ne_eq, decide_eq_true_eq] at hp
      obtain ⟨⟨h1, h2, h3, h4⟩, h5⟩ := hp
      rcases saw_com (fit_saw hok hf hx h1 h4) with h | h | ⟨h, h6⟩
      · exact absurd h h3
      · exact absurd h h2
      · obtain ⟨c, hc⟩ := com_some h
        have := last_com hok (k := x.item) hc
        rw [comAt_of hc] at h6
        omega
/-- Arcs of the first two kinds lead on in the order of commits. -/
theorem fit_arc (hok : OkTo l l.length) {T : List Int} (hf : fitsM l T = true) {rs : List Arc} (ha : ArcsOf l rs) {x : Arc} (hx : x ∈ rs) (hk : x.kind ≠ 3) : comAt l x.a < comAt l x.b := by
  obtain ⟨hne, h1, h2, ⟨_, j, hj1, hj2⟩ | ⟨_, i, e, he, ho, hlt, ea, eb, _⟩ | ⟨h3, _⟩⟩ := arc_iff.1 ((ha.2 x).1 hx)
  · have hr := (vers_rise hok (k := x.item) l.length (Nat.le_refl _)).1
    rw [List.take_length] at hr
    obtain ⟨g1, g2⟩ := List.getElem?_eq_some_iff.1 hj1
    obtain ⟨g3, g4⟩ := List.getElem?_eq_some_iff.1 hj2
    have := List.pairwise_iff_getElem.1 hr j (j + 1) g1 g3 (by omega)
    rw [g2, g4] at this
    exact this
  · rw [eb] at h2
    rcases saw_com (fit_saw hok hf he ho h2) with h | h | ⟨h, h6⟩
    · rw [ea, eb] at hne; exact absurd h hne
    · rw [ea, h] at h1
      have := com_in hok h1; omega
    · obtain ⟨c, hc⟩ := com_some h2
      have h7 := hok.commit_gt he hc
      rw [ea, eb, comAt_of hc]
      omega
  · exact absurd h3 hk
theorem fit_reach (hok : OkTo l l.length) {T : List Int} (hf : fitsM l T = true) {rs : List Arc} (ha : ArcsOf l rs) {want : Int → Bool} (hw : want 3 = false) {s y : Int} (h : ReachR rs want s y) : comAt l s ≤ comAt l y := by
  induction h with
  | refl => exact Int.le_refl _
  | @step x _ hx hk ih =>
    have := fit_arc hok hf ha hx (fun e => by rw [e, hw] at hk; cases hk)
    omega
theorem fit_circ (hok : OkTo l l.length) {T : List Int} (hf : fitsM l T = true) {rs : List Arc} (ha : ArcsOf l rs) {kind : Int} {want : Int → Bool} (hw : want 3 = false) (hk : kind ≠ 3) : circB rs kind want = false := by
  rw [← Bool.not_eq_true, circB_iff]
  rintro ⟨x, hx, rfl, hr⟩
  have h1 := fit_arc hok hf ha hx hk
  have h2 := fit_reach hok hf ha hw hr
  omega
/-- What fits has faults of the third kind alone. -/
theorem fit_faults (hok : OkTo l l.length) {T : List Int} (hf : fitsM l T = true) {rs : List Arc} (ha : ArcsOf l rs) : ∀ s ∈ faultsF l rs, s = sRw ∨ s = sRs := by
  unfold faultsF
  rw [fit_ab hok hf, fit_bt hok hf, fit_circ hok hf ha (kind := 1) (want := wW) rfl (by decide), fit_circ hok hf ha (kind := 2) (want := wP) rfl (by decide)]
  intro s hs
  unfold noteL at hs
  simp only [Bool.false_eq_true, if_false, List.nil_append, List.mem_append] at hs
  rcases hs with hs | hs <;> split at hs
  · exact .inl (List.mem_singleton.1 hs)
  · cases hs
  · exact .inr (List.mem_singleton.1 hs)
  · cases hs
end
end Go.Proofs.YtibhpoikhkokiaaGreat.Hw

/- From a function's contract to its row: what came in reads as it did. -/
set_option linter.unusedVariables false
set_option linter.unusedSimpArgs false
namespace Go.Proofs.YtibhpoikhkokiaaGreat.Hw
open Go
section
variable {H : Type} {enc : TypeId × Value → H} {P : Program} {w w' : World} {base : Nat} {sp : Nat → Bool}
theorem mapM_len {α β : Type} {f : α → Option β} : ∀ {l : List α} {r : List β}, l.mapM f = some r → r.length = l.length
  | [], r, h => by simp at h; subst h; rfl
  | x :: l, r, h => by
    rw [List.mapM_cons] at h
    simp only [bind, Option.bind_eq_some_iff, pure, Option.some.injEq] at h
    obtain ⟨y, _, r', h2, rfl⟩ := h
    simp [mapM_len h2]
/-- A type's parts lie in the table, and a slice's elements take a cell. -/
def partsB (P : Program) (d : Option TypeDesc) : Bool := match d with
  | some (.slice e) => decide (0 < P.cellsOf e) && decide (e < P.types.size)
  | some (.pointer e) => decide (e < P.types.size)
  | some (.struct fs) => fs.toList.all fun f => decide (f.type < P.types.size)
  | some (.array _ e) => decide (e < P.types.size)
  | some (.map _ e) => decide (e < P.types.size)
  | _ => true
/-- So for all types of the table. -/
def cellsB (P : Program) : Bool := (List.range P.types.size).all fun t => partsB P (P.underlying t)
theorem cellsB_ok (h : cellsB P = true) {t : TypeId} (ht : t < P.types.size) : partsB P (P.underlying t) = true := List.all_eq_true.1 h t (List.mem_range.2 ht)
/-- The reading of all cells of a slice is one that is told where to look for more. -/
theorem trodStep_spare {r r' : TypeId → List Value → Option (DataW H × List MemPlace)} {t : TypeId} (hz : partsB P (P.underlying t) = true)
    (hr : ∀ t cs x, t < P.types.size → r t cs = some x → (∀ p ∈ x.2, sp p.block = true) → r' t cs = some x) {cs : List Value} {x : DataW H × List MemPlace}
    (h : DataW.trodStep enc P w base (fun _ => true) true r t cs = some x) (hs : ∀ p ∈ x.2, sp p.block = true) : DataW.trodStep enc P w base sp true r' t cs = some x := by
  unfold DataW.trodStep at h ⊢
  split at h
  case h_6 e a hu =>
    rw [hu] at hz
    have he : e < P.types.size := of_decide_eq_true hz
    simp only [Option.map_eq_some_iff, Option.bind_eq_some_iff] at h ⊢
    obtain ⟨y, ⟨cs', hc, hy⟩, rfl⟩ := h
    exact ⟨y, ⟨cs', hc, hr _ _ _ he hy (fun p hp => hs p (by simp [hp]))⟩, rfl⟩
  case h_8 e a len cap hu =>
    rw [hu] at hz
    simp only [partsB, Bool.and_eq_true, decide_eq_true_eq] at hz
    obtain ⟨hz0, he⟩ := hz
    simp only at h ⊢
    split at h
    · rename_i hc
      rw [if_pos hc]
      simp only [if_true, Option.map_eq_some_iff, Option.bind_eq_some_iff] at h ⊢
      obtain ⟨elems, h1, rest, h2, rfl⟩ := h
      have g : ∀ i y, ((w.cells? base (a.add (i * P.cellsOf e)) (P.cellsOf e)).bind (r e)) = some y → (y ∈ elems ∨ y ∈ rest) → ((w.cells? base (a.add (i * P.cellsOf e)) (P.cellsOf e)).bind (r' e)) = some y := fun i y hy hm => by
        simp only [Option.bind_eq_some_iff] at hy ⊢
        obtain ⟨cs', hc', hy⟩ := hy
        exact ⟨cs', hc', hr _ _ _ he hy (fun p hp => hs p (by
          simp only [List.mem_append, List.mem_flatMap]
          exact .inr ⟨y, hm, hp⟩))⟩
      refine ⟨elems, mapM_carry h1 (fun i y _ hm hy => g i y hy (.inl hm)), rest, ?_, rfl⟩
      have hl2 : rest.length = cap - len := by
        have := mapM_len h2
        simpa using this
      by_cases hspa : sp a.block = true
      · rw [if_pos hspa]
        exact mapM_carry h2 (fun j y _ hm hy => g (len + j) y hy (.inr hm))
      · rw [if_neg hspa]
        have h0 : (elems.length + rest.length) * P.cellsOf e = 0 := by
          refine Classical.byContradiction fun hne => hspa ?_
          have := hs (.cell a.block (a.off + 0)) (by
            simp only [List.mem_append]
            exact .inl (MemPlace.mem_row.2 ⟨0, by omega, rfl⟩))
          exact this
        have : rest.length = 0 := by
          rcases Nat.mul_eq_zero.1 h0 with h3 | h3 <;> omega
        rw [List.length_eq_zero_iff.1 this]
    · cases h
  all_goals first | exact h | skip
  case h_9 fs hu =>
    rw [hu] at hz
    simp only [partsB, List.all_eq_true, decide_eq_true_eq] at hz
    split at h
    · rename_i hc
      rw [if_pos hc]
      simp only [Option.map_eq_some_iff] at h ⊢
      obtain ⟨xs, h1, rfl⟩ := h
      exact ⟨xs, mapM_carry h1 (fun f y hf hm hy => hr _ _ _ (hz f hf) hy (fun p hp => hs p (by
        simp only [List.mem_flatMap]
        exact ⟨y, hm, hp⟩))), rfl⟩
    · cases h
  case h_10 n e hu =>
    rw [hu] at hz
    have he : e < P.types.size := of_decide_eq_true hz
    split at h
    · rename_i hc
      rw [if_pos hc]
      simp only [Option.map_eq_some_iff] at h ⊢
      obtain ⟨xs, h1, rfl⟩ := h
      exact ⟨xs, mapM_carry h1 (fun f y _ hm hy => hr _ _ _ he hy (fun p hp => hs p (by
        simp only [List.mem_flatMap]
        exact ⟨y, hm, hp⟩))), rfl⟩
    · cases h
  case h_14 k e b hu =>
    rw [hu] at hz
    have he : e < P.types.size := of_decide_eq_true hz
    split at h
    · rename_i es clock hm
      simp only
      split at h
      · rename_i hc
        rw [if_pos hc]
        simp only [Option.bind_eq_some_iff] at h ⊢
        obtain ⟨entries, h1, h2⟩ := h
        split at h2
        · rename_i hri
          cases h2
          refine ⟨entries, mapM_carry h1 (fun y z _ hmem hy => ?_), by rw [if_pos hri]⟩
          simp only [Option.bind_eq_some_iff] at hy ⊢
          obtain ⟨key, hk, hy⟩ := hy
          refine ⟨key, hk, ?_⟩
          split at hy
          · rename_i hf
            rw [if_pos hf]
            simp only [Option.map_eq_some_iff] at hy ⊢
            obtain ⟨u, hu2, rfl⟩ := hy
            exact ⟨u, hr _ _ _ he hu2 (fun p hp => hs p (by
              simp only [List.mem_cons, List.mem_flatMap]
              exact .inr ⟨_, hmem, hp⟩)), rfl⟩
          · cases hy
        · cases h2
      · cases h
    · cases h
theorem trod_spare (hz : cellsB P = true) : ∀ (n : Nat) (t : TypeId) (cs : List Value) (x : DataW H × List MemPlace), t < P.types.size →
    DataW.trod enc P w base (fun _ => true) true n t cs = some x → (∀ p ∈ x.2, sp p.block = true) → DataW.trod enc P w base sp true n t cs = some x := by
  intro n
  induction n with
  | zero => intro t cs x _ h; simp [DataW.trod] at h
  | succ n ih =>
    intro t cs x ht h hs
    rw [DataW.trod_step] at h ⊢
    exact trodStep_spare (cellsB_ok hz ht) ih h hs
/-- What came in reads as it did, in a world in which all that was there stays. -/
theorem trodAll_again (hz : cellsB P = true) (hh : ∀ (b : Nat) o, w.heap[b]? = some o → w'.heap[b]? = some o) : ∀ {ts : List TypeId} {vs : List Value} {ds : List (DataW H)} {ps : List MemPlace}, (∀ t ∈ ts, t < P.types.size) →
    DataW.TrodAll enc P w base (fun _ => true) true ts vs ds ps → (∀ p ∈ ps, p.block < w.heap.size) → (∀ p ∈ ps, sp p.block = true) → DataW.TrodAll enc P w' base sp true ts vs ds ps
  | [], vs, ds, ps, _, h, _, _ => by
    obtain ⟨rfl, rfl, rfl⟩ := ChangeShapes.trodAll_nil h
    rfl
  | t :: ts, vs, ds, ps, hts, h, hl, hs => by
    obtain ⟨v, vs', d, ds', a, b, rfl, rfl, rfl, ⟨n, h1⟩, h2⟩ := ChangeShapes.trodAll_cons h
    have hold : ∀ p : MemPlace, p.block < w.heap.size → w'.heap[p.block]? = w.heap[p.block]? := fun p hp => by
      rw [Array.getElem?_eq_getElem hp]
      exact hh _ _ (Array.getElem?_eq_getElem hp)
    have same : ∀ p ∈ a, w.sameAt w' p := fun p hp => by
      have := hold p (hl p (List.mem_append_left _ hp))
      cases p with
      | cell b off => unfold World.sameAt World.cell?; simp only [MemPlace.block] at this; simp only [this]
      | map b => exact this
    exact ⟨a, b, ⟨n, DataW.trod_carry n t _ _ (trod_spare hz n t _ _ (hts t List.mem_cons_self) h1 (fun p hp => hs p (List.mem_append_left _ hp))) same⟩, trodAll_again hz hh (fun t ht => hts t (List.mem_cons_of_mem _ ht)) h2 (fun p hp => hl p (List.mem_append_right _ hp)) (fun p hp => hs p (List.mem_append_right _ hp)), rfl⟩
/-- The row's word for a function that only looks, and makes new memory. -/
theorem post_look {f : Func} {s : ChangeSpec} {apart fresh handsOn again : Bool} {W W' : World} {args : Array Value} {v : Value} {ds gs : List (DataW H)} {before : List MemPlace}
    (hz : cellsB P = true) (hps : ∀ t ∈ f.params.toList, t < P.types.size) (hW : DataW.Whole enc P f.params.toList s.vars apart W args.toList ds gs before) (hsv : s.vars = []) (hargs : (s.fn H (ds ++ gs)).args = ds) (hv2 : (s.fn H (ds ++ gs)).vars = [])
    (hres : ∀ (b : Nat) (sp : Nat → Bool) (hd : Bool), DataW.TrodAll enc P W' b sp hd f.resultTypes.toList (v.resultList f.resultTypes.size) (s.fn H (ds ++ gs)).results [])
    (hh : ∀ (b : Nat) o, W.heap[b]? = some o → W'.heap[b]? = some o) (hos : W'.os = W.os) (hout : W'.output = W.output)
    (hok : ∀ (j : Nat) (t : TypeId) (r : Value), f.resultTypes[j]? = some t → (v.resultList f.resultTypes.size)[j]? = some r → Value.okWide P W' .any 0 t r) :
    s.post enc P f apart fresh handsOn again W args v W' := by
  have hlt : ∀ p ∈ before, p.block < W.heap.size := fun p hp => hW.lt p hp
  have hold : ∀ p ∈ before, (fun b => decide (b < W.heap.size)) p.block = true := fun p hp => by simpa using hlt p hp
  have hW' := hW
  obtain ⟨pa, pv, hA, hV, hpe, hnf, hnd⟩ := hW'
  rw [hsv] at hV
  obtain ⟨hgs, hpv⟩ := ChangeShapes.trodVars_none hV
  subst hpv
  rw [List.append_nil] at hpe
  subst hpe
  have ag : ∀ sp : Nat → Bool, (∀ p ∈ before, sp p.block = true) → DataW.TrodAll enc P W' 0 sp true f.params.toList args.toList (s.fn H (ds ++ gs)).args before := fun sp hsp => by
    rw [hargs]
    exact trodAll_again hz hh hps hA hlt hsp
  have av : ∀ sp : Nat → Bool, DataW.TrodVars enc P W' sp s.vars (s.fn H (ds ++ gs)).vars [] := fun sp => by
    rw [hsv, hv2]
    exact rfl
  have same : ∀ b, b < W.heap.size → W'.heap[b]? = W.heap[b]? := fun b hb => by
    rw [Array.getElem?_eq_getElem hb]; exact hh _ _ (Array.getElem?_eq_getElem hb)
  refine ⟨ds, gs, before, [], before, [], hW, hres _ _ _, ag _ hold, av _, ⟨hos, hout, fun i hi => ?_⟩, fun _ => ?_⟩
  · rw [same i hi]
    cases hx : W.heap[i]? with
    | none => rfl
    | some o =>
      cases o with
      | cells c t fr => exact ⟨rfl, rfl, rfl, fun _ _ => rfl⟩
      | map es clock => exact .inr ⟨rfl, rfl⟩
      | _ => rfl
  · refine ⟨hok, _, _, ([] ++ before) ++ [], ⟨[] ++ before, [], ChangeShapes.trodAll_append (ag _ (fun _ _ => rfl)) (hres _ _ _), av _, rfl, ?_, ?_⟩, ?_⟩
    · intro b off hp
      have hp' : MemPlace.cell b off ∈ before := by simpa using hp
      have h1 := hnf b off hp'
      unfold World.frozen? at h1 ⊢
      rw [same b (hlt _ hp')]
      exact h1
    · intro ha
      have := hnd ha
      simpa using this
    · intro p hp _
      simpa using hp
/-- The whole heap of a world. -/
def hpOf (w : World) : Hp := fun b => w.heap[b]?
theorem cl_hp {b o : Nat} {v : Value} (h : w.cell? ⟨b, o, none⟩ = some v) : cl (hpOf w) b o = some v := by
  unfold World.cell? at h
  unfold cl hpOf
  split at h
  · rename_i c _ _ hb
    simp only at hb
    rw [hb]
    simpa using h
  · cases h
/-- A datum of which no part is too large. -/
def Sz (P : Program) (t : TypeId) (d : DataW H) : Prop := ∀ n ∈ d.weights P t, n ≤ reachBytes
theorem mem_all {e : TypeId} {d : DataW H} {n : Nat} : ∀ {l : List (DataW H)}, d ∈ l → n ∈ d.weights P e → n ∈ DataW.weightsAll P e l
  | x :: r, h, hn => by
    simp only [DataW.weightsAll, List.mem_append]
    rcases List.mem_cons.1 h with h | h
    · subst h; exact .inl hn
    · exact .inr (mem_all h hn)
theorem Sz.two {t : TypeId} {f0 f1 : Field} {d0 d1 : DataW H} (ht : P.underlying t = some (.struct #[f0, f1])) (h : Sz P t (.agg [d0, d1])) : Sz P f0.type d0 ∧ Sz P f1.type d1 := by
  unfold Sz at h
  simp only [DataW.weights, ht, DataW.weightsEach, List.map_cons, List.map_nil, List.append_nil, List.mem_append] at h
  exact ⟨fun n hn => h n (.inl hn), fun n hn => h n (.inr hn)⟩
theorem Sz.three {t : TypeId} {f0 f1 f2 : Field} {d0 d1 d2 : DataW H} (ht : P.underlying t = some (.struct #[f0, f1, f2])) (h : Sz P t (.agg [d0, d1, d2])) : Sz P f0.type d0 ∧ Sz P f1.type d1 ∧ Sz P f2.type d2 := by
  unfold Sz at h
  simp only [DataW.weights, ht, DataW.weightsEach, List.map_cons, List.map_nil, List.append_nil, List.mem_append] at h
  exact ⟨fun n hn => h n (.inl hn), fun n hn => h n (.inr (.inl hn)), fun n hn => h n (.inr (.inr hn))⟩
/-- A slice that came in: its cells, element by element. -/
theorem open_cells {spare : Nat → Bool} {held : Bool} {t e : TypeId} {fuel : Nat} {cs : List Value} {x : DataW H × List MemPlace} (ht : P.underlying t = some (.slice e)) (hC : 0 < P.cellsOf e) (hB : 0 < P.bytesOf e) (hsz : Sz P t x.1) (h : DataW.trod enc P w base spare held fuel t cs = some x) :
    ∃ (A : Option Addr) (n c : Nat) (f : Nat → List Value), cs = [.slice A n c] ∧ n ≤ reachBytes ∧ cellsAt (hpOf w) A ((List.range n).flatMap f) ∧ ∀ i, i < n → (f i).length = P.cellsOf e ∧ ∃ m y, Sz P e y.1 ∧ DataW.trod enc P w base spare held m e (f i) = some y := by
  rcases Go.Deep.open_slice ht h with ⟨rfl, _⟩ | ⟨a, len, cap, m, n, D, Pl, rfl, hb, hl, hm, hmm, hx, hi⟩
  · exact ⟨none, 0, 0, fun _ => [], rfl, by omega, .inl rfl, fun i hi => by omega⟩
  have hlm : len ≤ m := by rw [hmm]; split <;> omega
  have hsz' : (∀ k, k = (len + (m - len)) * P.bytesOf e → k ≤ reachBytes) ∧ ∀ i, i < len → Sz P e (D i) := by
    rw [hx] at hsz
    unfold Sz at hsz
    simp only [DataW.weights, ht, List.length_map, List.length_range, List.mem_cons, List.mem_append] at hsz
    exact ⟨fun k hk => hsz k (.inl hk), fun i hi k hk => hsz k (.inr (.inl (mem_all (List.mem_map_of_mem (f := D) (List.mem_range.2 hi)) hk)))⟩
  have hlr : len ≤ reachBytes := by
    have h1 := hsz'.1 _ rfl
    have h2 : len * 1 ≤ (len + (m - len)) * P.bytesOf e := Nat.mul_le_mul (by omega) hB
    omega
  refine ⟨some a, len, cap, fun i => (w.cells? base (a.add (i * P.cellsOf e)) (P.cellsOf e)).getD [], rfl, hlr, ?_, fun i him => ?_⟩
  rotate_left
  · obtain ⟨cs', hc, ht'⟩ := hi i (by omega)
    refine ⟨?_, n, _, hsz'.2 i him, by simp only [hc, Option.getD_some]; exact ht'⟩
    simp only [hc, Option.getD_some]
    exact (World.cells?_some hc).2.1
  by_cases h0 : len = 0
  · subst h0; exact .inl rfl
  · obtain ⟨cs0, hc0, _⟩ := hi 0 (by omega)
    have hs0 := (World.cells?_some hc0).2.2 0 hC
    have hsp : a.spot = none := by
      obtain ⟨_, hl0, hat⟩ := World.cells?_some hc0
      have h1 := hat 0 hC
      rw [Nat.zero_mul] at h1
      have h2 : (a.add 0).add 0 = a := rfl
      rw [h2, List.getElem?_eq_getElem (by omega)] at h1
      unfold World.cell? at h1
      split at h1
      · split at h1
        · cases h1
        · rename_i hn
          cases hsp : a.spot with
          | none => rfl
          | some q => rw [hsp] at hn; simp at hn
      · cases h1
    obtain ⟨b, o, q⟩ := a
    simp only at hsp
    subst hsp
    have hadd : ∀ o k, (⟨b, o, none⟩ : Addr).add k = ⟨b, o + k, none⟩ := fun o k => by
      unfold Addr.add
      by_cases hk : k = 0
      · subst hk; rfl
      · simp [hk]
    refine .inr ⟨b, o, rfl, fun j v hj => ?_⟩
    have hlen : ∀ i ∈ List.range len, ((w.cells? base ((⟨b, o, none⟩ : Addr).add (i * P.cellsOf e)) (P.cellsOf e)).getD []).length = P.cellsOf e := fun i him => by
      obtain ⟨cs', hc, _⟩ := hi i (by have := List.mem_range.1 him; omega)
      simp only [hc, Option.getD_some]
      exact (World.cells?_some hc).2.1
    have hjl : j < len * P.cellsOf e := by
      have := (List.getElem?_eq_some_iff.1 hj).1
      rw [flat_length hlen, List.length_range] at this
      exact this
    have hdm : j = j / P.cellsOf e * P.cellsOf e + j % P.cellsOf e := by
      have := Nat.div_add_mod j (P.cellsOf e)
      rw [Nat.mul_comm] at this
      exact this.symm
    have hil : j / P.cellsOf e < len := Nat.div_lt_of_lt_mul (by rw [Nat.mul_comm]; exact hjl)
    have hql : j % P.cellsOf e < P.cellsOf e := Nat.mod_lt _ hC
    rw [hdm, flat_get hlen (x := j / P.cellsOf e) (by simp [hil]) hql] at hj
    obtain ⟨cs', hc, _⟩ := hi (j / P.cellsOf e) (by omega)
    simp only [hc, Option.getD_some] at hj
    have h3 := (World.cells?_some hc).2.2 _ hql
    rw [hj, hadd, hadd] at h3
    have h4 := cl_hp h3
    rw [Nat.add_assoc, ← hdm] at h4
    exact h4
/-- A struct of two or three one-cell fields: the fields' own readings. -/
theorem open_two {spare : Nat → Bool} {held : Bool} {t : TypeId} {f0 f1 : Field} {fuel : Nat} {cs : List Value} {x : DataW H × List MemPlace} (ht : P.underlying t = some (.struct #[f0, f1])) (hc : P.cellsOf t = 2)
    (h0 : f0.offset = 0 ∧ P.cellsOf f0.type = 1) (h1 : f1.offset = 1 ∧ P.cellsOf f1.type = 1) (hsz : Sz P t x.1) (h : DataW.trod enc P w base spare held fuel t cs = some x) :
    ∃ v0 v1 n y0 y1, cs = [v0, v1] ∧ (Sz P f0.type y0.1 ∧ Sz P f1.type y1.1) ∧ DataW.trod enc P w base spare held n f0.type [v0] = some y0 ∧ DataW.trod enc P w base spare held n f1.type [v1] = some y1 := by
  obtain ⟨xs, n, _, rfl, hl, hx, hf⟩ := DataW.trod_struct ht h
  rw [hc] at hl
  match cs, hl with
  | [v0, v1], _ =>
    have e0 := hf 0 f0 rfl
    have e1 := hf 1 f1 rfl
    rw [h0.1, h0.2] at e0
    rw [h1.1, h1.2] at e1
    match xs, hx with
    | [y0, y1], _ => exact ⟨v0, v1, n, y0, y1, rfl, Sz.two ht hsz, e0, e1⟩
theorem open_three {spare : Nat → Bool} {held : Bool} {t : TypeId} {f0 f1 f2 : Field} {fuel : Nat} {cs : List Value} {x : DataW H × List MemPlace} (ht : P.underlying t = some (.struct #[f0, f1, f2])) (hc : P.cellsOf t = 3)
    (h0 : f0.offset = 0 ∧ P.cellsOf f0.type = 1) (h1 : f1.offset = 1 ∧ P.cellsOf f1.type = 1) (h2 : f2.offset = 2 ∧ P.cellsOf f2.type = 1) (hsz : Sz P t x.1) (h : DataW.trod enc P w base spare held fuel t cs = some x) :
    ∃ v0 v1 v2 n y0 y1 y2, cs = [v0, v1, v2] ∧ (Sz P f0.type y0.1 ∧ Sz P f1.type y1.1 ∧ Sz P f2.type y2.1) ∧ DataW.trod enc P w base spare held n f0.type [v0] = some y0 ∧ DataW.trod enc P w base spare held n f1.type [v1] = some y1 ∧ DataW.trod enc P w base spare held n f2.type [v2] = some y2 := by
  obtain ⟨xs, n, _, rfl, hl, hx, hf⟩ := DataW.trod_struct ht h
  rw [hc] at hl
  match cs, hl with
  | [v0, v1, v2], _ =>
    have e0 := hf 0 f0 rfl
    have e1 := hf 1 f1 rfl
    have e2 := hf 2 f2 rfl
    rw [h0.1, h0.2] at e0
    rw [h1.1, h1.2] at e1
    rw [h2.1, h2.2] at e2
    match xs, hx with
    | [y0, y1, y2], _ => exact ⟨v0, v1, v2, n, y0, y1, y2, rfl, Sz.three ht hsz, e0, e1, e2⟩
def chk2 (P : Program) (t a b : Nat) : Bool := Nat.beq (P.cellsOf t) 2 && (match P.underlying t with
  | some (.struct fs) => (match fs.toList with
    | [f0, f1] => Nat.beq f0.type a && Nat.beq f0.offset 0 && Nat.beq (P.cellsOf a) 1 && Nat.beq f1.type b && Nat.beq f1.offset 1 && Nat.beq (P.cellsOf b) 1
    | _ => false)
  | _ => false)
def chk3 (P : Program) (t a b c : Nat) : Bool := Nat.beq (P.cellsOf t) 3 && (match P.underlying t with
  | some (.struct fs) => (match fs.toList with
    | [f0, f1, f2] => Nat.beq f0.type a && Nat.beq f0.offset 0 && Nat.beq (P.cellsOf a) 1 && Nat.beq f1.type b && Nat.beq f1.offset 1 && Nat.beq (P.cellsOf b) 1 && Nat.beq f2.type c && Nat.beq f2.offset 2 && Nat.beq (P.cellsOf c) 1
    | _ => false)
  | _ => false)
theorem opn2 {spare : Nat → Bool} {held : Bool} {t a b : Nat} {fuel : Nat} {cs : List Value} {x : DataW H × List MemPlace} (hc : chk2 P t a b = true) (hsz : Sz P t x.1) (h : DataW.trod enc P w base spare held fuel t cs = some x) :
    ∃ v0 v1 n y0 y1, cs = [v0, v1] ∧ (Sz P a y0.1 ∧ Sz P b y1.1) ∧ DataW.trod enc P w base spare held n a [v0] = some y0 ∧ DataW.trod enc P w base spare held n b [v1] = some y1 := by
  unfold chk2 at hc
  rw [Bool.and_eq_true] at hc
  obtain ⟨hc0, hc⟩ := hc
  split at hc
  · rename_i fs hu
    split at hc
    · rename_i f0 f1 hfs
      have : fs = #[f0, f1] := Array.ext' hfs
      subst this
      simp only [Bool.and_eq_true] at hc
      obtain ⟨⟨⟨⟨⟨h1, h2⟩, h3⟩, h4⟩, h5⟩, h6⟩ := hc
      cases Nat.eq_of_beq_eq_true h1
      cases Nat.eq_of_beq_eq_true h4
      exact open_two hu (Nat.eq_of_beq_eq_true hc0) ⟨Nat.eq_of_beq_eq_true h2, Nat.eq_of_beq_eq_true h3⟩ ⟨Nat.eq_of_beq_eq_true h5, Nat.eq_of_beq_eq_true h6⟩ hsz h
    · cases hc
  · cases hc
theorem opn3 {spare : Nat → Bool} {held : Bool} {t a b c : Nat} {fuel : Nat} {cs : List Value} {x : DataW H × List MemPlace} (hc : chk3 P t a b c = true) (hsz : Sz P t x.1) (h : DataW.trod enc P w base spare held fuel t cs = some x) :
    ∃ v0 v1 v2 n y0 y1 y2, cs = [v0, v1, v2] ∧ (Sz P a y0.1 ∧ Sz P b y1.1 ∧ Sz P c y2.1) ∧ DataW.trod enc P w base spare held n a [v0] = some y0 ∧ DataW.trod enc P w base spare held n b [v1] = some y1 ∧ DataW.trod enc P w base spare held n c [v2] = some y2 := by
  unfold chk3 at hc
  rw [Bool.and_eq_true] at hc
  obtain ⟨hc0, hc⟩ := hc
  split at hc
  · rename_i fs hu
    split at hc
    · rename_i f0 f1 f2 hfs
      have : fs = #[f0, f1, f2] := Array.ext' hfs
      subst this
      simp only [Bool.and_eq_true] at hc
      obtain ⟨⟨⟨⟨⟨⟨⟨⟨h1, h2⟩, h3⟩, h4⟩, h5⟩, h6⟩, h7⟩, h8⟩, h9⟩ := hc
      cases Nat.eq_of_beq_eq_true h1
      cases Nat.eq_of_beq_eq_true h4
      cases Nat.eq_of_beq_eq_true h7
      exact open_three hu (Nat.eq_of_beq_eq_true hc0) ⟨Nat.eq_of_beq_eq_true h2, Nat.eq_of_beq_eq_true h3⟩ ⟨Nat.eq_of_beq_eq_true h5, Nat.eq_of_beq_eq_true h6⟩ ⟨Nat.eq_of_beq_eq_true h8, Nat.eq_of_beq_eq_true h9⟩ hsz h
    · cases hc
  · cases hc
end
end Go.Proofs.YtibhpoikhkokiaaGreat.Hw

/- Histories: HistoryFitting walked (c3), and what comes in, opened. -/
set_option linter.unusedVariables false
set_option linter.unusedSimpArgs false
set_option maxRecDepth 100000
namespace Go.Proofs.YtibhpoikhkokiaaGreat.Hw
open Go Go.Proofs
section
variable {H H' : Hp} {Q : Value → Hp → Prop}
theorem c10 {A : Option Addr} {n c : Nat} (hq : Q (.bool (decide ((n : Int) > 120))) H) : HCalls Tryz.prog 10 [.slice A n c] H Q := by
  refine f10.ok _ _ _ ?_
  unfold f10; exact hq
theorem c3 {A S : Option Addr} {n c ns cs : Nat} {l : List Ev} {T : List Int} (hA : SlAt evC H A n l) (hc : n ≤ c) (hS : SlAt inC H S ns T) (hq : ∀ H', Ext H H' → Q (.bool true) H') : HCalls Tryz.prog 3 [.slice A n c, .slice S ns cs] H Q := by
  refine f3.ok _ _ _ _ _ _ ?_
  unfold f3
  refine jn_intro (fun J => ∀ b, J b H) (fun b => ?_) fun J hJ => c10 ⟨_, rfl, cndI (fun _ => hJ _) fun _ => hJ _⟩
  refine cndI (fun _ => c11 fun H8 x8 => ⟨_, rfl, hq H8 x8⟩) fun _ => ?_
  refine c12 hA hc hS fun H11 x11 => ⟨_, _, rfl, ?_⟩
  cases hv : validM l with
  | false => exact jn_intro (fun J => ∀ b, b = true → J b) (fun b hb => cndT hb (c11 fun H17 x17 => ⟨_, rfl, hq H17 (x11.trans x17)⟩)) fun J hJ => cndT rfl (hJ _ rfl)
  | true =>
    obtain ⟨hok, hlen⟩ := valid_ok hv
    refine jn_intro (fun J => ∀ b, (b = false → fitsM l T = true) → J b) (fun b hb => cndI (fun _ => c11 fun H17 x17 => ⟨_, rfl, hq H17 (x11.trans x17)⟩) fun hf => ?_) fun J hJ => cndF rfl (hJ _ fun h => by simpa using h)
    have hfit := hb hf
    refine c13 (hA.ext x11) hc ⟨(fun h => by rw [hv] at h; cases h), fun _ rs A21 c21 H20 ha x20 S21 _ => ⟨_, _, _, _, rfl, ?_⟩⟩
    have hfa := fit_faults hok hfit ha
    have hx20 := x11.trans x20
    refine scan S21.lt (fun i H' => H' = H20) rfl (fun i H24 next hi hI hnext => ?_) (fun H24 next hI => ?_)
    · obtain rfl := hI
      obtain ⟨s, hs⟩ := get_of hi
      dsimp only
      have hne : (faultsF l rs).flatMap stC ≠ [] := flat_ne (k := 1) (fun x _ => rfl) (by omega) (fun e => by rw [e] at hi; simp at hi)
      refine cndT (decide_eq_true (by omega)) ⟨by omega, by omega, at_cells S21.cells hne fun b26 o26 _ k26 => ⟨s, ?_, ?_⟩⟩
      · have := k26 (i * 1 + 0) _ (flat_get (k := 1) (fun x _ => rfl) hs (by omega))
        simpa using this
      · refine jn_intro (fun J => J false) (cndF rfl ⟨rfl, hnext H24 rfl⟩) fun J hJ => cndI (fun h1 => ?_) fun h1 => hJ
        rcases hfa s (List.mem_of_getElem? hs) with rfl | rfl
        · have : (sRw.toList == sRw.toList) = true := beq_iff_eq.2 rfl
          have h2 : (!(sRw.toList == sRw.toList)) = true := h1
          rw [this] at h2; cases h2
        · have : (!(sRs.toList == ({ data := #[99, 105, 114, 99, 108, 101, 115, 32, 114, 119] } : ByteArray).toList)) = false := by
            rw [show (sRs.toList == ({ data := #[99, 105, 114, 99, 108, 101, 115, 32, 114, 119] } : ByteArray).toList) = true from beq_iff_eq.2 rfl]; rfl
          rw [this]; exact hJ
    · obtain rfl := hI
      dsimp only
      exact cndF (decide_eq_false (by omega)) (jn_intro (fun J => ∀ H', Ext H24 H' → J true H') (fun H' hx => hq H' (hx20.trans hx)) fun J hJ => cndT rfl (c11 fun H31 x31 => ⟨_, rfl, hJ H31 x31⟩))
end
/-! ### what comes in -/
theorem u22 : Tryz.prog.underlying 22 = some (.slice 35) := by kernel_rfl
theorem u23 : Tryz.prog.underlying 23 = some (.slice 3) := by kernel_rfl
theorem u4 : Tryz.prog.underlying 4 = some .bool := by kernel_rfl
theorem u3 : Tryz.prog.underlying 3 = some (.int .i64) := by kernel_rfl
theorem u33 : Tryz.prog.underlying 33 = some (.int .i64) := by kernel_rfl
theorem z35 : Tryz.prog.cellsOf 35 = 5 := by kernel_rfl
theorem z3 : Tryz.prog.cellsOf 3 = 1 := by kernel_rfl
theorem z33 : Tryz.prog.cellsOf 33 = 1 := by kernel_rfl
theorem y35 : 0 < Tryz.prog.bytesOf 35 := of_decide_eq_true (by kernel_rfl)
theorem y3 : 0 < Tryz.prog.bytesOf 3 := of_decide_eq_true (by kernel_rfl)
def chkE (d : Option TypeDesc) : Bool := match d with
  | some (.struct fs) => (match fs.toList with
    | [f0, f1, f2, f3, f4] => Nat.beq f0.type 33 && Nat.beq f0.offset 0 && Nat.beq f1.type 3 && Nat.beq f1.offset 1 && Nat.beq f2.type 3 && Nat.beq f2.offset 2 && Nat.beq f3.type 3 && Nat.beq f3.offset 3 && Nat.beq f4.type 3 && Nat.beq f4.offset 4
    | _ => false)
  | _ => false
theorem k35 : chkE (Tryz.prog.underlying 35) = true := by kernel_rfl
section
variable {X : Type} {enc : TypeId × Value → X} {w : World} {base : Nat} {spare : Nat → Bool} {held : Bool} {fuel : Nat} {cs : List Value} {x : DataW X × List MemPlace}
theorem flat_choose {α : Type} {f : Nat → List Value} {g : α → List Value} : ∀ {n : Nat}, (∀ i, i < n → ∃ a, f i = g a) → ∃ l : List α, l.length = n ∧ (List.range n).flatMap f = l.flatMap g
  | 0, _ => ⟨[], rfl, rfl⟩
  | n + 1, h => by
    obtain ⟨l, h1, h2⟩ := flat_choose (n := n) (fun i hi => h i (by omega))
    obtain ⟨a, ha⟩ := h n (by omega)
    refine ⟨l ++ [a], by simp [h1], ?_⟩
    rw [List.range_succ, List.flatMap_append, List.flatMap_append, h2]
    simp [ha]
theorem open_ev (h : DataW.trod enc Tryz.prog w base spare held fuel 35 cs = some x) : ∃ a : Ev, cs = evC a := by
  have hk := k35
  cases hu : Tryz.prog.underlying 35 with
  | none => rw [hu] at hk; cases hk
  | some d =>
    rw [hu] at hk
    unfold chkE at hk
    split at hk
    · rename_i fs hfs
      cases hfs
      split at hk
      · rename_i f0 f1 f2 f3 f4 hl
        have : fs = #[f0, f1, f2, f3, f4] := Array.ext' hl
        subst this
        simp only [Bool.and_eq_true] at hk
        obtain ⟨⟨⟨⟨⟨⟨⟨⟨⟨a0, b0⟩, a1⟩, b1⟩, a2⟩, b2⟩, a3⟩, b3⟩, a4⟩, b4⟩ := hk
        have a0 := Nat.eq_of_beq_eq_true a0
        have a1 := Nat.eq_of_beq_eq_true a1
        have a2 := Nat.eq_of_beq_eq_true a2
        have a3 := Nat.eq_of_beq_eq_true a3
        have a4 := Nat.eq_of_beq_eq_true a4
        have b0 := Nat.eq_of_beq_eq_true b0
        have b1 := Nat.eq_of_beq_eq_true b1
        have b2 := Nat.eq_of_beq_eq_true b2
        have b3 := Nat.eq_of_beq_eq_true b3
        have b4 := Nat.eq_of_beq_eq_true b4
        obtain ⟨xs, n, _, hx, hlen, hxl, hf⟩ := DataW.trod_struct hu h
        rw [z35] at hlen
        match cs, hlen, xs, hxl with
        | [v0, v1, v2, v3, v4], _, [y0, y1, y2, y3, y4], _ =>
          have e0 := hf 0 f0 rfl
          have e1 := hf 1 f1 rfl
          have e2 := hf 2 f2 rfl
          have e3 := hf 3 f3 rfl
          have e4 := hf 4 f4 rfl
          rw [a0, b0, z33] at e0
          rw [a1, b1, z3] at e1
          rw [a2, b2, z3] at e2
          rw [a3, b3, z3] at e3
          rw [a4, b4, z3] at e4
          obtain ⟨o0, h0, _⟩ := DataW.trod_int u33 e0
          obtain ⟨o1, h1, _⟩ := DataW.trod_int u3 e1
          obtain ⟨o2, h2, _⟩ := DataW.trod_int u3 e2
          obtain ⟨o3, h3, _⟩ := DataW.trod_int u3 e3
          obtain ⟨o4, h4, _⟩ := DataW.trod_int u3 e4
          simp at h0 h1 h2 h3 h4
          exact ⟨⟨o0, o1, o2, o3, o4⟩, by rw [h0, h1, h2, h3, h4]; rfl⟩
      · cases hk
    · cases hk
theorem open_cap {t e : TypeId} (ht : Tryz.prog.underlying t = some (.slice e)) (h : DataW.trod enc Tryz.prog w base spare held fuel t cs = some x) {A : Option Addr} {n c : Nat} (hc : cs = [.slice A n c]) : n ≤ c := by
  rcases Go.Deep.open_slice ht h with ⟨rfl, _⟩ | ⟨a, len, cap, m, n', D, Pl, rfl, hb, hl, _⟩
  · cases hc; exact Nat.le_refl _
  · cases hc; omega
theorem open_evs (hsz : Sz Tryz.prog 22 x.1) (h : DataW.trod enc Tryz.prog w base spare held fuel 22 cs = some x) : ∃ A n c l, cs = [.slice A n c] ∧ SlAt evC (hpOf w) A n l ∧ n ≤ c := by
  obtain ⟨A, n, c, f, rfl, hm, hc, hf⟩ := open_cells u22 (by rw [z35]; decide) y35 hsz h
  obtain ⟨l, h1, h2⟩ := flat_choose (g := evC) (n := n) (f := f) fun i hi => by
    obtain ⟨_, m, y, _, hy⟩ := hf i hi
    exact open_ev hy
  refine ⟨A, n, c, l, rfl, ⟨h1.symm, by rw [← h2]; exact hc, ?_⟩, open_cap u22 h rfl⟩
  rw [h1]; unfold huge; unfold reachBytes at hm; omega
theorem open_nums (hsz : Sz Tryz.prog 23 x.1) (h : DataW.trod enc Tryz.prog w base spare held fuel 23 cs = some x) : ∃ A n c l, cs = [.slice A n c] ∧ SlAt inC (hpOf w) A n l := by
  obtain ⟨A, n, c, f, rfl, hm, hc, hf⟩ := open_cells u23 (by rw [z3]; decide) y3 hsz h
  obtain ⟨l, h1, h2⟩ := flat_choose (g := inC) (n := n) (f := f) fun i hi => by
    obtain ⟨_, m, y, hys, hy⟩ := hf i hi
    obtain ⟨k, hk, _⟩ := DataW.trod_int u3 hy
    exact ⟨k, hk⟩
  refine ⟨A, n, c, l, rfl, ⟨h1.symm, by rw [← h2]; exact hc, ?_⟩⟩
  rw [h1]; unfold huge; unfold reachBytes at hm; omega
end
open Go.ChangeShapes Go.WideShapes Go.ChangeAt Go.RowKit
theorem ownK : ownKnob Tryz.prog.godebug = none := by kernel_rfl
theorem cellsB_prog : cellsB Tryz.prog = true := by kernel_rfl
/-- A Boolean result's reading. -/
theorem res_bool {X : Type} {enc : TypeId × Value → X} {W : World} (b : Nat) (sp : Nat → Bool) (hd : Bool) (x : Bool) : DataW.TrodAll enc Tryz.prog W b sp hd [4] [.bool x] [.lit (.bool x)] [] :=
  trodAll_mk1 ⟨1, by simp only [DataW.trod, Value.cells, u4]⟩
theorem ok_bool {W : World} (x : Bool) : Value.okWide Tryz.prog W .any 0 4 (.bool x) := by
  unfold Value.okWide; rw [u4]; simp only [Cell.okWide, u4]; exact trivial
theorem slice_of {P : Program} {W : World} {base : Nat} {t e : TypeId} {v : Value} {A : Option Addr} {n c : Nat} (hs : P.underlying t = some (.slice e)) (h : Value.okWide P W .any base t v) (hc : v.cells.toList = [.slice A n c]) : v = .slice A n c := by
  simp only [Value.okWide, hs, Cell.okWide] at h
  cases v <;> simp_all [Cell.ok, Value.cells]
theorem int_of {P : Program} {W : World} {base : Nat} {t : TypeId} {k k' : IntKind} {v : Value} {n : Int} (hs : P.underlying t = some (.int k)) (h : Value.okWide P W .any base t v) (hc : v.cells.toList = [.int k' n]) : v = .int k' n := by
  simp only [Value.okWide, hs, Cell.okWide] at h
  cases v <;> simp_all [Cell.ok, Value.cells]
/-- What the row wants to hear of a result that is a Boolean. -/
theorem ok_bools {W : World} {f : Func} (hf : f.resultTypes = #[4]) (x : Bool) : ∀ (j : Nat) (t : TypeId) (r : Value), f.resultTypes[j]? = some t → ((Value.bool x).resultList f.resultTypes.size)[j]? = some r → Value.okWide Tryz.prog W .any 0 t r := by
  intro j t r h1 h2
  rw [hf] at h1 h2
  match j with
  | 0 =>
    cases (h1 : some 4 = some t)
    cases (h2 : some (Value.bool x) = some r)
    exact ok_bool x
  | j + 1 => cases h1
end Go.Proofs.YtibhpoikhkokiaaGreat.Hw

/- Histories: what is serial has no circle with one arc of the third kind (plain law). -/
set_option linter.unusedVariables false
set_option linter.unusedSimpArgs false
namespace Go.Proofs.YtibhpoikhkokiaaGreat.Hw
open Go Go.Proofs
section
variable {l : List Ev} {t : Int}
/-- A place from which a transaction reads and writes. -/
def PlaceIs (l : List Ev) (t p : Int) : Prop := fitsB l t 0 p (comAt l t) = true ∧ p ≤ (highM l t : Nat)
theorem high_le (hok : OkTo l l.length) {c : Nat} (hc : commitI l t = some c) : highM l t ≤ c := by
  unfold highM
  cases hf : l.findIdx? (opOf t) with
  | none => show natOr (commitI l t) ≤ c; rw [hc]; exact Nat.le_refl _
  | some j =>
    rw [List.findIdx?_eq_some_iff_getElem] at hf
    obtain ⟨g1, g2, _⟩ := hf
    have hx : l[j]? = some l[j] := List.getElem?_eq_getElem g1
    have ht : l[j].txn = t := by unfold opOf at g2; simp at g2; exact g2.1
    exact hok.commit_gt hx (by rw [ht]; exact hc)
theorem PlaceIs.le (hok : OkTo l l.length) {p : Int} (hc : comB l t = true) (h : PlaceIs l t p) : p ≤ comAt l t := by
  obtain ⟨c, hc⟩ := com_some hc
  have := high_le hok hc
  have := h.2
  rw [comAt_of hc]; omega
theorem vers_get {item v : Int} (h : v ∈ versM l item) : ∃ (j : Nat) (x : Ev), l[j]? = some x ∧ x.op = 4 ∧ x.txn = v ∧ wroteM (l.take j) v item = true := by
  unfold versM at h
  obtain ⟨j, hj, hv⟩ := List.mem_filterMap.1 h
  cases hx : l[j]? with
  | none => rw [hx] at hv; cases hv
  | some x =>
    rw [hx] at hv
    simp only at hv
    split at hv
    · rename_i hc
      cases hv
      rw [Bool.and_eq_true] at hc
      exact ⟨j, x, hx, by simpa using hc.1, rfl, hc.2⟩
    · cases hv
theorem vers_in {item v : Int} {j : Nat} {x : Ev} (hx : l[j]? = some x) (ho : x.op = 4) (hv : x.txn = v) (hw : wroteM (l.take j) v item = true) : v ∈ versM l item := by
  subst hv
  unfold versM
  refine List.mem_filterMap.2 ⟨j, List.mem_range.2 (List.getElem?_eq_some_iff.1 hx).1, ?_⟩
  rw [hx]
  simp only [ho, beq_self_eq_true, Bool.true_and, hw, if_true]
theorem rise (hok : OkTo l l.length) (k : Int) : (versM l k).Pairwise (fun a b => comAt l a < comAt l b) := by
  have := (vers_rise hok (k := k) l.length (Nat.le_refl _)).1
  rwa [List.take_length] at this
theorem last_max {p : Int} : ∀ {vs pre : List Int} {s : Int}, (pre ++ vs).Pairwise (fun a b => comAt l a < comAt l b) → (∀ v ∈ pre, comAt l v < p → s ∈ pre ∧ comAt l v ≤ comAt l s) →
    ∀ v ∈ pre ++ vs, comAt l v < p → vs.foldl (lastS l p) s ∈ pre ++ vs ∧ comAt l v ≤ comAt l (vs.foldl (lastS l p) s)
  | [], pre, s, _, h => by simpa using h
  | a :: r, pre, s, hp, h => by
    have e : pre ++ a :: r = (pre ++ [a]) ++ r := by simp
    rw [e] at hp ⊢
    rw [List.foldl_cons]
    refine last_max (vs := r) (pre := pre ++ [a]) hp ?_
    have hpa := (List.pairwise_append.1 (List.pairwise_append.1 hp).1).2.2
    intro v hv hvp
    unfold lastS
    by_cases hap : comAt l a < p
    · rw [if_pos (decide_eq_true hap)]
      refine ⟨by simp, ?_⟩
      rcases List.mem_append.1 hv with hv | hv
      · exact Int.le_of_lt (hpa v hv a (by simp))
      · rw [List.mem_singleton.1 hv]; exact Int.le_refl _
    · rw [if_neg (by simpa using hap)]
      rcases List.mem_append.1 hv with hv | hv
      · obtain ⟨h1, h2⟩ := h v hv hvp
        exact ⟨List.mem_append_left _ h1, h2⟩
      · rw [List.mem_singleton.1 hv] at hvp; exact absurd hvp hap
theorem lastM_max (hok : OkTo l l.length) {item p v : Int} (hv : v ∈ versM l item) (hp : comAt l v < p) : lastM l item p ∈ versM l item ∧ comAt l v ≤ comAt l (lastM l item p) := by
  have := last_max (l := l) (p := p) (vs := versM l item) (pre := []) (s := 0) (by simpa using rise hok item) (fun v hv => by cases hv) v (by simpa using hv) hp
  simpa [lastM] using this
theorem next_get {item f b : Int} (hb : nextM l item f = b) (h0 : b ≠ 0) : (f = 0 ∧ (versM l item)[0]? = some b) ∨ (f ≠ 0 ∧ ∃ j : Nat, (versM l item)[j]? = some f ∧ (versM l item)[j + 1]? = some b) := by
  unfold nextM at hb
  by_cases hf : f = 0
  · rw [if_pos (by simpa using hf)] at hb
    cases h : (versM l item)[0]? with
    | none => rw [h] at hb; exact absurd hb.symm h0
    | some y => rw [h] at hb; simp at hb; exact .inl ⟨hf, by rw [hb]⟩
  · rw [if_neg (by simpa using hf)] at hb
    cases h : (versM l item).findIdx? (fun y => f == y) with
    | none => rw [h] at hb; exact absurd hb.symm h0
    | some j =>
      rw [h] at hb
      simp only at hb
      rw [List.findIdx?_eq_some_iff_getElem] at h
      obtain ⟨g1, g2, _⟩ := h
      have g2 : f = (versM l item)[j] := by simpa using g2
      cases h2 : (versM l item)[j + 1]? with
      | none => rw [h2] at hb; exact absurd hb.symm h0
      | some y => rw [h2] at hb; simp at hb; exact .inr ⟨hf, j, by rw [List.getElem?_eq_getElem g1, g2], by rw [← hb]; exact h2⟩
theorem place_clean {p : Int} (h : PlaceIs l t p) (hok : OkTo l l.length) {item a : Int} (hm : t ∈ versM l item) (ha : a ∈ versM l item) (hne : a ≠ t) (hlt : comAt l a < comAt l t) : comAt l a < p := by
  obtain ⟨j, x, hx, ho, ht, hw⟩ := vers_get hm
  obtain ⟨i, y, hi, hy, hp⟩ := any_take.1 hw
  obtain ⟨y1, y2, y3⟩ := isW_iff.1 hp
  have h1 := fits_at h.1 hy
  unfold okEv at h1
  rw [if_neg (by simp [y2]), if_neg (by simp [y1]), if_pos (by simp [y1])] at h1
  have hn : ¬ comAt l t < 0 := by unfold comAt; omega
  rw [if_neg (by simpa using hn)] at h1
  have hwant : wantedB 0 y = true := rfl
  rw [hwant, Bool.true_and, Bool.not_not] at h1
  unfold cleanB at h1
  rw [Bool.not_eq_true', List.any_eq_false] at h1
  have h2 := h1 a (by rw [y3]; exact ha)
  unfold otherB at h2
  apply Classical.byContradiction
  intro hge
  apply h2
  simp only [Bool.and_eq_true, bne_iff_ne, ne_eq, decide_eq_true_eq]
  exact ⟨hne, by omega, hlt⟩
theorem place_read {p : Int} (h : PlaceIs l t p) {i : Nat} {x : Ev} (hx : l[i]? = some x) (ho : x.op = 2) (ht : x.txn = t) : x.frm = (if wroteM (l.take i) t x.item then t else lastM l x.item p) := by
  subst ht
  exact okEv_read (fits_at h.1 hx) ho (by unfold wantedB; rfl)
theorem lastM_ok {item p : Int} : lastM l item p = 0 ∨ lastM l item p ∈ versM l item ∧ comAt l (lastM l item p) < p := lastM_com (l := l) (item := item) (p := p) (vs := versM l item) (s := 0) (.inl rfl) fun v hv => hv
variable (hok : OkTo l l.length) {rs : List Arc} (ha : ArcsOf l rs) {pl : Int → Int} (hp : ∀ t, comB l t = true → PlaceIs l t (pl t))
include hok ha hp
/-- Behind an arc of the first two kinds all is read later. -/
theorem ser_arc {x : Arc} (hx : x ∈ rs) (hk : x.kind ≠ 3) : comAt l x.a < pl x.b := by
  obtain ⟨hne, h1, h2, ⟨_, j, hj1, hj2⟩ | ⟨_, i, e, he, ho, hlt, ea, eb, _⟩ | ⟨h3, _⟩⟩ := arc_iff.1 ((ha.2 x).1 hx)
  · have hr := rise hok x.item
    obtain ⟨g1, g2⟩ := List.getElem?_eq_some_iff.1 hj1
    obtain ⟨g3, g4⟩ := List.getElem?_eq_some_iff.1 hj2
    have h := List.pairwise_iff_getElem.1 hr j (j + 1) g1 g3 (by omega)
    rw [g2, g4] at h
    exact place_clean (hp x.b h2) hok (List.mem_of_getElem? hj2) (List.mem_of_getElem? hj1) hne h
  · have hr := place_read (hp x.b h2) he ho eb.symm
    split at hr
    · rw [← ea] at hr; exact absurd hr hne
    · rcases lastM_ok (l := l) (item := e.item) (p := pl x.b) with h | ⟨_, h⟩
      · rw [h] at hr
        rw [ea, hr] at h1
        have := com_in hok h1; omega
      · rw [← hr, ← ea] at h; exact h
  · exact absurd h3 hk
theorem ser_reach {s y : Int} (h : ReachR rs wP s y) : s = y ∨ comAt l s < pl y := by
  induction h with
  | refl => exact .inl rfl
  | @step x hr hx hk ih =>
    have h1 := ser_arc hok ha hp hx (fun e => by rw [e] at hk; cases hk)
    rcases ih with rfl | h2
    · exact .inr h1
    · have hc := (arc_iff.1 ((ha.2 x).1 hx)).2.1
      have := (hp x.a hc).le hok hc
      exact .inr (by omega)
/-- An arc of the third kind leads to what committed later than the place. -/
theorem ser_rw {x : Arc} (hx : x ∈ rs) (hk : x.kind = 3) : pl x.a ≤ comAt l x.b := by
  obtain ⟨hne, h1, h2, ⟨h3, _⟩ | ⟨h3, _⟩ | ⟨_, i, e, he, ho, hc, ea, eb, _⟩⟩ := arc_iff.1 ((ha.2 x).1 hx)
  · rw [hk] at h3; cases h3
  · rw [hk] at h3; cases h3
  · have hb0 : x.b ≠ 0 := by have := com_in hok h2; omega
    have hr := place_read (hp x.a h1) he ho ea.symm
    have hpa := (hp x.a h1).le hok h1
    rcases next_get (l := l) eb.symm hb0 with ⟨hf, hv⟩ | ⟨hf, j, hv1, hv2⟩
    · split at hr
      · rw [hf] at hr
        have := com_in hok h1; omega
      · apply Classical.byContradiction
        intro hlt
        have := (lastM_max hok (item := e.item) (p := pl x.a) (List.mem_of_getElem? hv) (by omega)).1
        rw [← hr, hf] at this
        have := com_in hok (vers_com this); omega
    · obtain ⟨g1, g2⟩ := List.getElem?_eq_some_iff.1 hv1
      obtain ⟨g3, g4⟩ := List.getElem?_eq_some_iff.1 hv2
      have h := List.pairwise_iff_getElem.1 (rise hok e.item) j (j + 1) g1 g3 (by omega)
      rw [g2, g4] at h
      split at hr
      · rw [hr] at h; omega
      · apply Classical.byContradiction
        intro hlt
        have := (lastM_max hok (item := e.item) (p := pl x.a) (List.mem_of_getElem? hv2) (by omega)).2
        rw [← hr] at this; omega
theorem ser_circ : circB rs 3 wP = false := by
  rw [← Bool.not_eq_true, circB_iff]
  rintro ⟨x, hx, hk, hr⟩
  have h1 := ser_rw hok ha hp hx hk
  rcases ser_reach hok ha hp hr with h | h
  · exact (arc_iff.1 ((ha.2 x).1 hx)).1 h.symm
  · omega
end
theorem places {l : List Ev} (h : ∀ t, comB l t = true → serialB l t = true) : ∃ pl : Int → Int, ∀ t, comB l t = true → PlaceIs l t (pl t) := by
  have : ∀ t, ∃ p, comB l t = true → PlaceIs l t p := fun t => by
    cases hc : comB l t with
    | false => exact ⟨0, fun h => by cases h⟩
    | true =>
      obtain ⟨p, _, h2, h3⟩ := found_ex (h t hc)
      exact ⟨p, fun _ => ⟨h3, h2⟩⟩
  exact ⟨fun t => Classical.choose (this t), fun t => Classical.choose_spec (this t)⟩
theorem in_all200 (t : Int) : all200.any (fun y => t == y) = inB t := by
  rw [Bool.eq_iff_iff, List.any_eq_true]
  unfold all200 inB
  simp only [List.mem_map, List.mem_range, Bool.and_eq_true, decide_eq_true_eq, beq_iff_eq]
  constructor
  · rintro ⟨y, ⟨j, hj, rfl⟩, rfl⟩; omega
  · rintro ⟨h1, h2⟩
    exact ⟨t, ⟨(t - 1).toNat, by omega, by omega⟩, rfl⟩
/-- What is serial has at most circles of several arcs of the third kind. -/
theorem ser_faults {l : List Ev} (hok : OkTo l l.length) (hf : fitsM l all200 = true) {rs : List Arc} (ha : ArcsOf l rs) : faultsF l rs = [] ∨ faultsF l rs = [sRs] := by
  have hs : ∀ t, comB l t = true → serialB l t = true := fun t ht => by
    have h := fitsM_iff.1 hf t ht
    unfold okT at h
    have hi := com_in hok ht
    rwa [in_all200, show inB t = true by unfold inB; simp; omega, if_pos rfl] at h
  obtain ⟨pl, hpl⟩ := places hs
  unfold faultsF
  rw [fit_ab hok hf, fit_bt hok hf, fit_circ hok hf ha (kind := 1) (want := wW) rfl (by decide), fit_circ hok hf ha (kind := 2) (want := wP) rfl (by decide), ser_circ hok ha hpl]
  cases circsB rs
  · exact .inl rfl
  · exact .inr rfl
end Go.Proofs.YtibhpoikhkokiaaGreat.Hw

/- Histories: there is an order just if there is no circle (plain law). -/
set_option linter.unusedVariables false
set_option linter.unusedSimpArgs false
set_option linter.unusedSectionVars false
namespace Go.Proofs.YtibhpoikhkokiaaGreat.Hw
open Go Go.Proofs
theorem str_eq {a b : ByteArray} : (a.toList == b.toList) = decide (a = b) := by
  by_cases h : a = b
  · subst h; simp
  · rw [decide_eq_false h, beq_eq_false_iff_ne]
    intro e
    rw [ByteArray.toList_eq, ByteArray.toList_eq] at e
    exact h (by cases a; cases b; simp only at e; congr 1; exact Array.ext' e)
/-- A least one of a relation without circles. -/
theorem min_el {R : Int → Int → Prop} (tr : ∀ a b c, R a b → R b c → R a c) : ∀ {L : List Int}, L ≠ [] → (∀ a ∈ L, ¬ R a a) → ∃ m ∈ L, ∀ a ∈ L, ¬ R a m
  | [], h, _ => absurd rfl h
  | [b], _, hi => ⟨b, by simp, fun a ha => by rw [List.mem_singleton.1 ha]; exact hi b (by simp)⟩
  | b :: c :: r, _, hi => by
    obtain ⟨m, hm, hmin⟩ := min_el (R := R) tr (L := c :: r) (by simp) fun a ha => hi a (List.mem_cons_of_mem _ ha)
    by_cases hb : R b m
    · refine ⟨b, List.mem_cons_self, fun a ha => ?_⟩
      rcases List.mem_cons.1 ha with rfl | ha
      · exact hi a List.mem_cons_self
      · exact fun h => hmin a ha (tr _ _ _ h hb)
    · refine ⟨m, List.mem_cons_of_mem _ hm, fun a ha => ?_⟩
      rcases List.mem_cons.1 ha with rfl | ha
      · exact hb
      · exact hmin a ha
/-! ### what the order is -/
def Before (o : List Int) (a b : Int) : Prop := ∃ i j : Nat, i < j ∧ o[i]? = some a ∧ o[j]? = some b
theorem order_none {rs : List Arc} : ∀ {n : Nat} {L out : List Int}, L.Nodup → L.length ≤ n → orderM rs n L out = none → ∃ L' : List Int, L' ≠ [] ∧ ∀ t ∈ L', ∃ x ∈ rs, x.b = t ∧ x.a ∈ L'
  | 0, L, out, _, hn, h => by
    have : L = [] := List.eq_nil_of_length_eq_zero (by omega)
    subst this
    rw [order_end rfl] at h; cases h
  | n + 1, L, out, hL, hn, h => by
    unfold orderM at h
    split at h
    · cases h
    · rename_i hne
      cases hf : freeM rs L with
      | none =>
        refine ⟨L, fun e => by subst e; exact hne rfl, fun t ht => ?_⟩
        unfold freeM at hf
        rw [List.find?_eq_none] at hf
        have := hf t (sortM_mem.2 ht)
        unfold fr1 at this
        simp only [Bool.not_eq_true', Bool.not_eq_false, List.any_eq_true, Bool.and_eq_true, beq_iff_eq, List.contains_iff_mem] at this
        exact this
      | some t =>
        rw [hf] at h
        have ht := (free_mem hf).1
        have := takeOut_len hL ht
        exact order_none (n := n) (hL.filter _) (by show (takeOut L t).length ≤ n; omega) h
theorem order_some {rs : List Arc} : ∀ {n : Nat} {L out o : List Int}, L.Nodup → orderM rs n L out = some o → ∃ tl, o = out ++ tl ∧ SameEl tl L ∧ ∀ x ∈ rs, x.a ∈ L → x.b ∈ L → x.a ≠ x.b → Before tl x.a x.b
  | 0, L, out, o, hL, h => by
    unfold orderM at h
    split at h
    · rename_i he
      cases h
      have : L = [] := List.isEmpty_iff.1 he
      subst this
      exact ⟨[], by simp, ⟨List.nodup_nil, List.nodup_nil, fun x => Iff.rfl⟩, fun x _ ha => by cases ha⟩
    · cases h
  | n + 1, L, out, o, hL, h => by
    unfold orderM at h
    split at h
    · rename_i he
      cases h
      have : L = [] := List.isEmpty_iff.1 he
      subst this
      exact ⟨[], by simp, ⟨List.nodup_nil, List.nodup_nil, fun x => Iff.rfl⟩, fun x _ ha => by cases ha⟩
    · cases hf : freeM rs L with
      | none => rw [hf] at h; cases h
      | some t =>
        rw [hf] at h
        obtain ⟨ht, hfr⟩ := free_mem hf
        obtain ⟨tl, h1, h2, h3⟩ := order_some (n := n) (hL.filter _) h
        have hmem : ∀ x, x ∈ takeOut L t ↔ x ∈ L ∧ x ≠ t := fun x => by unfold takeOut; rw [List.mem_filter]; simp
        have h2' : SameEl tl (takeOut L t) := h2
        refine ⟨t :: tl, by rw [h1]; simp, ⟨List.nodup_cons.2 ⟨fun hm => ((hmem t).1 ((h2'.2.2 t).1 hm)).2 rfl, h2'.1⟩, hL, fun x => ?_⟩, fun x hx ha hb hne => ?_⟩
        · rw [List.mem_cons, h2'.2.2, hmem]
          constructor
          · rintro (rfl | h)
            · exact ht
            · exact h.1
          · intro hx
            by_cases e : x = t
            · exact .inl e
            · exact .inr ⟨hx, e⟩
        · have hbt : x.b ≠ t := fun e => by
            unfold fr1 at hfr
            rw [Bool.not_eq_true', List.any_eq_false] at hfr
            exact hfr x hx (by rw [e, List.contains_iff_mem.2 ha]; simp)
          have hbm : x.b ∈ takeOut L t := (hmem _).2 ⟨hb, hbt⟩
          by_cases hat : x.a = t
          · obtain ⟨j, hj⟩ := List.getElem?_of_mem ((h2'.2.2 _).2 hbm)
            exact ⟨0, j + 1, by omega, by rw [hat]; rfl, hj⟩
          · obtain ⟨i, j, hij, hi, hj⟩ := h3 x hx ((hmem _).2 ⟨ha, hat⟩) hbm hne
            exact ⟨i + 1, j + 1, by omega, hi, hj⟩
/-! ### circles -/
section
variable {E : Int → List Int}
def ReachP (E : Int → List Int) (a b : Int) : Prop := ∃ y ∈ E a, ReachE E y b
theorem ReachE.trans' {a b c : Int} (h : ReachE E a b) (h' : ReachE E b c) : ReachE E a c := by
  induction h' with
  | refl => exact h
  | step _ hy ih => exact .step ih hy
theorem ReachE.head {a y b : Int} (hy : y ∈ E a) (h : ReachE E y b) : ReachE E a b := (ReachE.step .refl hy).trans' h
theorem ReachP.reach {a b : Int} (h : ReachP E a b) : ReachE E a b := by
  obtain ⟨y, hy, hr⟩ := h
  exact hr.head hy
theorem ReachP.cont {a b c : Int} (h : ReachP E a b) (h' : ReachE E b c) : ReachP E a c := by
  obtain ⟨y, hy, hr⟩ := h
  exact ⟨y, hy, hr.trans' h'⟩
theorem reach_pre {a b c : Int} (h : ReachE E a b) (h' : ReachP E b c) : ReachP E a c := by
  induction h with
  | refl => exact h'
  | @step x y h1 hy ih => exact ih ⟨y, hy, h'.reach⟩
inductive Way (E : Int → List Int) (s : Int) : Nat → Int → Prop
  | zero : Way E s 0 s
  | succ {k : Nat} {x y : Int} : y ∈ E x → Way E s k y → Way E s (k + 1) x
theorem way_of {x z s : Int} (h : ReachE E x z) : ∀ {k : Nat}, Way E s k z → ∃ k', Way E s k' x := by
  induction h with
  | refl => exact fun {k} h => ⟨k, h⟩
  | step _ hy ih => exact fun {k} h => ih (.succ hy h)
theorem Way.reach {k : Nat} {x s : Int} (h : Way E s k x) : ReachE E x s := by
  induction h with
  | zero => exact .refl
  | succ hy _ ih => exact ih.head hy
theorem walk_of {s : Int} (hmin : ∀ t, ReachP E t t → s ≤ t) : ∀ {k : Nat} {x : Int}, Way E s k x → ReachE E s x → ∃ k', WalkR E s k' x
  | _, _, .zero, _ => ⟨0, .zero⟩
  | _, x, .succ (y := y) hy h, hr => by
    by_cases e : x = s
    · subst e; exact ⟨0, .zero⟩
    · obtain ⟨k', hk⟩ := walk_of hmin h (.step hr hy)
      have hx : ReachP E x x := ⟨y, hy, h.reach.trans' hr⟩
      have := hmin x hx
      exact ⟨k' + 1, .succ (by omega) hy hk⟩
theorem dist_ex (s : Int) : ∃ d, IsDist E s d := by
  classical
  refine ⟨fun x => if h : ∃ k, WalkR E s k x ∧ ∀ j, WalkR E s j x → k ≤ j then some (Classical.choose h) else none, fun x k => ?_⟩
  constructor
  · intro h
    have h : (if h : ∃ k, WalkR E s k x ∧ ∀ j, WalkR E s j x → k ≤ j then some (Classical.choose h) else none) = some k := h
    split at h
    · rename_i hx
      cases h
      exact Classical.choose_spec hx
    · cases h
  · rintro ⟨h1, h2⟩
    have hx : ∃ k, WalkR E s k x ∧ ∀ j, WalkR E s j x → k ≤ j := ⟨k, h1, h2⟩
    show (if h : ∃ k, WalkR E s k x ∧ ∀ j, WalkR E s j x → k ≤ j then some (Classical.choose h) else none) = some k
    rw [dif_pos hx]
    have h3 := Classical.choose_spec hx
    congr 1
    have := h3.2 k h1
    have := h2 _ h3.1
    omega
theorem path_ex {s : Int} {d : Int → Option Nat} (hd : IsDist E s d) : ∀ (n : Nat) (a : Int) (out : List Int), s < a → d a = some n → ∃ o, PathR E s d a out (some o) := by
  intro n
  induction n using Nat.strongRecOn with
  | _ n ih =>
    intro a out hsa ha
    have hw := ((hd a n).1 ha).1
    cases hw with
    | zero => omega
    | @succ k x y h1 h2 h3 =>
      obtain ⟨k3, h4, h5⟩ := hd.ex h3
      cases hb : bestM E s d a with
      | none => rw [bestM_ok.1 hb y h2 h3.ge] at h4; cases h4
      | some b =>
        obtain ⟨_, hsb, kb, hkb, hmin⟩ := bestM_ok.2 b hb
        by_cases e : b = s
        · subst e; exact ⟨_, .fin hb⟩
        · have := hmin y h2 h3.ge k3 h4
          obtain ⟨o, ho⟩ := ih kb (by omega) b (out ++ [b]) (by omega) hkb
          exact ⟨o, .go hb e ho⟩
/-- Where there is a circle, one is found. -/
theorem circ_found {D : List Int} (hD : ∀ x y, y ∈ E x → x ∈ D) (h : ∃ x, ReachP E x x) : ∃ s o, shortF E s = some o ∧ (E s).isEmpty = false := by
  classical
  obtain ⟨x, hx⟩ := h
  have hin : ∀ t, ReachP E t t → t ∈ D := fun t ht => by obtain ⟨y, hy, _⟩ := ht; exact hD t y hy
  obtain ⟨s, hs, hmin⟩ := min_el (R := fun a b : Int => a < b) (fun a b c h1 h2 => by omega) (L := D.filter fun t => decide (ReachP E t t)) (fun e => by
    have : x ∈ D.filter fun t => decide (ReachP E t t) := List.mem_filter.2 ⟨hin x hx, decide_eq_true hx⟩
    rw [e] at this; cases this) (fun a _ h => by omega)
  have hss : ReachP E s s := of_decide_eq_true (List.mem_filter.1 hs).2
  have hmin' : ∀ t, ReachP E t t → s ≤ t := fun t ht => by
    have := hmin t (List.mem_filter.2 ⟨hin t ht, decide_eq_true ht⟩)
    omega
  obtain ⟨y, hy, hr⟩ := hss
  obtain ⟨k, hk⟩ := way_of (s := s) hr .zero
  obtain ⟨k', hw⟩ := walk_of hmin' hk (.step .refl hy)
  obtain ⟨d, hd⟩ := dist_ex (E := E) s
  obtain ⟨k3, h4, _⟩ := hd.ex hw
  have hne : (E s).isEmpty = false := by
    cases he : (E s).isEmpty with
    | false => rfl
    | true => rw [List.isEmpty_iff.1 he] at hy; cases hy
  cases hb : bestM E s d s with
  | none => rw [bestM_ok.1 hb y hy hw.ge] at h4; cases h4
  | some b =>
    obtain ⟨_, hsb, kb, hkb, _⟩ := bestM_ok.2 b hb
    by_cases e : b = s
    · subst e
      exact ⟨b, [b], shortF_eq ⟨d, hd, .fin hb⟩, hne⟩
    · obtain ⟨o, ho⟩ := path_ex hd kb b ([s] ++ [b]) (by omega) hkb
      exact ⟨s, o, shortF_eq ⟨d, hd, .go hb e ho⟩, hne⟩
/-- What is found is a circle. -/
theorem found_circ {s : Int} {o : List Int} (h : shortF E s = some o) : ∃ y ∈ E s, ∃ k, WalkR E s k y := by
  unfold shortF at h
  split at h
  · rename_i hx
    obtain ⟨d, hd, hp⟩ := Classical.choose_spec hx
    have hb : bestM E s d s ≠ none := fun hb => by
      have e := hp.one (.no hb)
      rw [e] at h; cases h
    cases hbb : bestM E s d s with
    | none => exact absurd hbb hb
    | some b =>
      obtain ⟨hbE, _, kb, hkb, _⟩ := bestM_ok.2 b hbb
      exact ⟨b, hbE, kb, ((hd b kb).1 hkb).1⟩
  · cases h
theorem anom_fold {ks : List Int} : ∀ {st : Option (List Int)}, ks.foldl (anS E) st ≠ none ↔ st ≠ none ∨ ∃ x ∈ ks, shortF E x ≠ none := by
  induction ks with
  | nil => intro st; simp
  | cons a r ih =>
    intro st
    rw [List.foldl_cons, ih]
    have : anS E st a ≠ none ↔ st ≠ none ∨ shortF E a ≠ none := by
      unfold anS
      cases hs : shortF E a with
      | none => simp
      | some c =>
        cases st with
        | none => simp
        | some o => simp only; split <;> simp
    rw [this]
    simp only [List.mem_cons, exists_eq_or_imp]
    rw [or_assoc]
end
/-- Where a number stands. -/
def posM (o : List Int) (t : Int) : Nat := match o.findIdx? (fun y => y == t) with
  | some i => i + 1
  | none => 0
theorem posM_of {o : List Int} (hn : o.Nodup) {i : Nat} {t : Int} (h : o[i]? = some t) : posM o t = i + 1 := by
  unfold posM
  obtain ⟨h1, h2⟩ := List.getElem?_eq_some_iff.1 h
  have : o.findIdx? (fun y => y == t) = some i := by
    rw [List.findIdx?_eq_some_iff_getElem]
    refine ⟨h1, by rw [h2]; simp, fun j hj => ?_⟩
    intro he
    have he : o[j] = t := by simpa using he
    exact List.pairwise_iff_getElem.1 hn j i (by omega) h1 hj (he.trans h2.symm)
  rw [this]
theorem posM_not {o : List Int} {t : Int} (h : t ∉ o) : posM o t = 0 := by
  unfold posM
  have : o.findIdx? (fun y => y == t) = none := by
    rw [List.findIdx?_eq_none_iff]
    intro x hx
    have : x ≠ t := fun e => h (e ▸ hx)
    simpa using this
  rw [this]
/-- What an order is good for. -/
structure GoodOrder (l : List Ev) (rs : List Arc) (o : List Int) : Prop where
  nodup : o.Nodup
  mem : ∀ t, t ∈ o ↔ comB l t = true
  lead : ∀ x ∈ rs, posM o x.a ≠ 0 ∧ posM o x.a < posM o x.b
theorem order_good {l : List Ev} {rs : List Arc} (hok : OkTo l l.length) (ha : ArcsOf l rs) {o : List Int} (h : orderM rs (comL l).length (comL l) [] = some o) : GoodOrder l rs o := by
  obtain ⟨tl, rfl, hs, hb⟩ := order_some (comL_nodup rfl hok) h
  refine ⟨hs.1, fun t => (hs.2.2 t).trans comL_mem, fun x hx => ?_⟩
  obtain ⟨hne, h1, h2, _⟩ := arc_iff.1 ((ha.2 x).1 hx)
  obtain ⟨i, j, hij, hi, hj⟩ := hb x hx (comL_mem.2 h1) (comL_mem.2 h2) hne
  rw [posM_of hs.1 hi, posM_of hs.1 hj]
  omega
/-- There is an order just if no circle is found. -/
theorem order_anom {l : List Ev} {rs : List Arc} {E : Int → List Int} {ks : List Int} (hok : OkTo l l.length) (ha : ArcsOf l rs) (G : GraphOf rs wA E) (hk : ∀ x, x ∈ ks ↔ (E x).isEmpty = false) :
    orderM rs (comL l).length (comL l) [] = none ↔ anomF E ks ≠ none := by
  have hE : ∀ x y, y ∈ E x ↔ ∃ z ∈ rs, z.a = x ∧ z.b = y := fun x y => by
    rw [(G x).2 y]
    constructor
    · rintro ⟨z, h1, h2, h3, _⟩; exact ⟨z, h1, h2, h3⟩
    · rintro ⟨z, h1, h2, h3⟩; exact ⟨z, h1, h2, h3, rfl⟩
  unfold anomF
  rw [anom_fold]
  constructor
  · intro h
    obtain ⟨L, hne, hL⟩ := order_none (comL_nodup rfl hok) (Nat.le_refl _) h
    have hc : ∃ x, ReachP E x x := by
      apply Classical.byContradiction
      intro hno
      obtain ⟨m, hm, hmin⟩ := min_el (R := ReachP E) (fun a b c h1 h2 => h1.cont h2.reach) hne fun a _ h => hno ⟨a, h⟩
      obtain ⟨x, hx, rfl, hxa⟩ := hL m hm
      exact hmin x.a hxa ⟨x.b, (hE _ _).2 ⟨x, hx, rfl, rfl⟩, .refl⟩
    obtain ⟨s, o, h1, h2⟩ := circ_found (D := rs.map (·.a)) (fun x y hy => by obtain ⟨z, hz, rfl, _⟩ := (hE x y).1 hy; exact List.mem_map_of_mem hz) hc
    exact .inr ⟨s, (hk s).2 h2, by rw [h1]; simp⟩
  · rintro (h | ⟨s, hs, hne⟩)
    · exact absurd rfl h
    · cases ho : orderM rs (comL l).length (comL l) [] with
      | none => rfl
      | some o =>
        exfalso
        have hg := order_good hok ha ho
        cases hsf : shortF E s with
        | none => exact hne hsf
        | some c =>
          obtain ⟨y, hy, k, hw⟩ := found_circ hsf
          have hstep : ∀ x y, y ∈ E x → posM o x < posM o y := fun x y hy => by
            obtain ⟨z, hz, rfl, rfl⟩ := (hE x y).1 hy
            exact (hg.lead z hz).2
          have hwalk : ∀ k y, WalkR E s k y → posM o y ≤ posM o s := fun k y hw => by
            induction hw with
            | zero => exact Nat.le_refl _
            | succ _ hy _ ih => have := hstep _ _ hy; omega
          have := hstep s y hy
          have := hwalk k y hw
          omega
/-! ### faults of the first two kinds -/
def badS (s : ByteArray) : Bool := s.toList == sAb.toList || s.toList == sBt.toList
theorem noteL_any {b : Bool} {s : ByteArray} : (noteL b s).any badS = (b && badS s) := by unfold noteL; cases b <;> simp
theorem faults_bad {l : List Ev} {rs : List Arc} : (faultsF l rs).any badS = (abTo l l.length || btTo l l.length) := by
  unfold faultsF
  simp only [List.any_append, noteL_any]
  have h1 : badS sAb = true := by unfold badS; rw [str_eq, str_eq]; simp
  have h2 : badS sBt = true := by unfold badS; rw [str_eq, str_eq]; simp
  have ne : ∀ {a b : ByteArray}, a.data ≠ b.data → decide (a = b) = false := fun {a b} h => decide_eq_false fun e => h (by rw [e])
  have h3 : badS sWw = false := by unfold badS; rw [str_eq, str_eq, ne (by decide), ne (by decide)]; rfl
  have h4 : badS sWr = false := by unfold badS; rw [str_eq, str_eq, ne (by decide), ne (by decide)]; rfl
  have h5 : badS sRw = false := by unfold badS; rw [str_eq, str_eq, ne (by decide), ne (by decide)]; rfl
  have h6 : badS sRs = false := by unfold badS; rw [str_eq, str_eq, ne (by decide), ne (by decide)]; rfl
  rw [h1, h2, h3, h4, h5, h6]
  simp
end Go.Proofs.YtibhpoikhkokiaaGreat.Hw

/- What functions of the program come to, by the evaluator: printed by a program of this session (gen.py) and checked here. -/
set_option linter.unusedVariables false
set_option maxRecDepth 100000
namespace Go.Proofs.YtibhpoikhkokiaaGreat.Hw
open Go Go.Proofs

/-- justiciar justiciarlaw29.HistoryOrder -/
def f9 (pl_A : Option Addr) (pl_n pl_c : Nat) (H : Hp) (Q : Value → Hp → Prop) : Prop :=
  HCalls Tryz.prog 10 [.slice pl_A pl_n pl_c] H fun v1 H2 => ∃ x3 : Bool, v1 = .bool x3 ∧ cnd x3 (HCalls Tryz.prog 11 [] H2 fun v4 H5 => ∃ x6 : Bool, v4 = .bool x6 ∧ Q (.bool x6) H5) (HCalls Tryz.prog 29 [.slice pl_A pl_n
    pl_c] H2 fun v7 H8 => ∃ (A9 : Option Addr) (n9 c9 : Nat), ∃ x10 : Bool, ∃ x11 : Int, v7 = .tuple #[.slice A9 n9 c9, .bool x10, .int .i64 x11] ∧ HCalls Tryz.prog 13 [.slice pl_A pl_n pl_c] H8 fun v12 H13 => ∃ (A14 :
    Option Addr) (n14 c14 : Nat), ∃ x15 : Int, v12 = .tuple #[.slice A14 n14 c14, .int .i64 x15] ∧ HCalls Tryz.prog 23 [.slice pl_A pl_n pl_c] H13 fun v16 H17 => ∃ (A18 : Option Addr) (n18 c18 : Nat), ∃ x19 : Int, v16 =
    .tuple #[.slice A18 n18 c18, .int .i64 x19] ∧ cnd ((x11 : Int) != 0) (jn (fun (j23 : Bool) (H24 : Hp) => Q (.bool j23) H24) fun J25 => cnd ((x11 : Int) == 2) (cnd ((x15 : Int) == x11) (cnd ((x19 : Int) == x11) (HCalls
    Tryz.prog 11 [] H17 fun v20 H21 => ∃ x22 : Bool, v20 = .bool x22 ∧ J25 x22 H21) (J25 false H17)) (J25 false H17)) (J25 false H17)) (LoopF (σ := (Bool × (Int × Unit)) × Unit) (((x19 : Int) == 0, (0, ())), ()) H17 fun
    s26 H27 next28 => cnd (decide ((s26.1.2.1 : Int) < ((n14 : Nat) : Int))) (jn (fun (j31 : Bool) => KeepX [some (.v (.slice pl_A pl_n pl_c)), some (.v (.slice A9 n9 c9)), some (.v (.bool x10)), some (.v (.int .i64
    x15)), some (.v (.slice A14 n14 c14)), some (.v (.int .i64 ((n14 : Nat) : Int)))] [] ∧ next28 ((j31, (IntKind.i64.wrap (s26.1.2.1 + 1), ())), ()) H27) fun J32 => 0 ≤ (s26.1.2.1 : Int) ∧ (s26.1.2.1 : Int) < ((n14 :
    Nat) : Int) ∧ onPtr A14 fun b29 o29 => ∃ s30 : ByteArray, cl H27 b29 (o29 + (s26.1.2.1 : Int).toNat * 1) = some (.string s30) ∧ cnd s26.1.1 (J32 true) (cnd (s30.toList == ({ data := #[97, 98, 111, 114, 116, 101, 100,
    32, 114, 101, 97, 100] } : ByteArray).toList) (J32 true) (J32 (s30.toList == ({ data := #[114, 101, 97, 100, 32, 98, 101, 116, 119, 101, 101, 110] } : ByteArray).toList)))) (jn (fun (j33 : Bool) => cnd j33 (Q (.bool
    false) H27) (cnd (!x10) (jn (fun (j38 : Bool) (H39 : Hp) => Q (.bool j38) H39) fun J40 => cnd ((((n9 : Nat) : Int) : Int) == 0) (HCalls Tryz.prog 11 [] H27 fun v35 H36 => ∃ x37 : Bool, v35 = .bool x37 ∧ J40 x37 H36)
    (J40 false H27)) (((201 : Int) = 201 ∧ 0 ≤ (201 : Int) ∧ (201 : Int) ≤ 16777216 ∧ newF H27 3 (List.replicate ((201 : Int).toNat) [.int .i64 0]).flatten fun g41 H42 => LoopF (σ := (Int × Unit) × Unit) ((0, ()), ()) H42
    fun s43 H44 next45 => cnd (decide ((s43.1.1 : Int) < ((n9 : Nat) : Int))) (0 ≤ (s43.1.1 : Int) ∧ (s43.1.1 : Int) < ((n9 : Nat) : Int) ∧ onPtr A9 fun b46 o46 => ∃ x47 : Int, cl H44 b46 (o46 + (s43.1.1 : Int).toNat * 1)
    = some (.int .i64 x47) ∧ jn (fun (j49 : Bool) => cnd j49 (Q (.bool false) H44) (0 ≤ (x47 : Int) ∧ (x47 : Int) < ((((201 : Int).toNat) : Nat) : Int) ∧ storeF H44 g41 (0 + (x47 : Int).toNat * 1) [.int .i64
    (IntKind.i64.wrap (s43.1.1 + 1))] fun H51 => KeepX [some (.v (.slice pl_A pl_n pl_c)), some (.v (.slice (some ⟨g41, 0, none⟩) ((201 : Int).toNat) ((201 : Int).toNat))), some (.v (.slice A9 n9 c9)), some (.v (.int .i64
    ((n9 : Nat) : Int)))] [] ∧ next45 ((IntKind.i64.wrap (s43.1.1 + 1), ()), ()) H51)) fun J50 => cnd (decide ((x47 : Int) < 1)) (J50 true) (cnd (decide ((x47 : Int) > 200)) (J50 true) (0 ≤ (x47 : Int) ∧ (x47 : Int) <
    ((((201 : Int).toNat) : Nat) : Int) ∧ ∃ x48 : Int, cl H44 g41 (0 + (x47 : Int).toNat * 1) = some (.int .i64 x48) ∧ J50 ((x48 : Int) != 0)))) (HCalls Tryz.prog 18 [.slice pl_A pl_n pl_c] H44 fun v52 H53 => ∃ (A54 :
    Option Addr) (n54 c54 : Nat), ∃ x55 : Int, v52 = .tuple #[.slice A54 n54 c54, .int .i64 x55] ∧ LoopF (σ := (Int × Unit) × Unit) ((0, ()), ()) H53 fun s56 H57 next58 => cnd (decide ((s56.1.1 : Int) < ((n54 : Nat) :
    Int))) (0 ≤ (s56.1.1 : Int) ∧ (s56.1.1 : Int) < ((n54 : Nat) : Int) ∧ onPtr A54 fun b59 o59 => ∃ x60 : Int, cl H57 b59 (o59 + (s56.1.1 : Int).toNat * 4) = some (.int .i64 x60) ∧ ∃ x61 : Int, cl H57 b59 ((o59 +
    (s56.1.1 : Int).toNat * 4) + 1) = some (.int .i64 x61) ∧ ∃ x62 : Int, cl H57 b59 (((o59 + (s56.1.1 : Int).toNat * 4) + 1) + 1) = some (.int .i64 x62) ∧ ∃ x63 : Int, cl H57 b59 ((((o59 + (s56.1.1 : Int).toNat * 4) + 1)
    + 1) + 1) = some (.int .i64 x63) ∧ jn (fun (j67 : Bool) => cnd j67 (Q (.bool false) H57) (KeepX [some (.v (.slice (some ⟨g41, 0, none⟩) ((201 : Int).toNat) ((201 : Int).toNat))), some (.v (.int .i64 x55)), some (.v
    (.slice A54 n54 c54)), some (.v (.int .i64 ((n54 : Nat) : Int)))] [] ∧ next58 ((IntKind.i64.wrap (s56.1.1 + 1), ()), ()) H57)) fun J68 => cnd (decide ((x60 : Int) < 1)) (J68 true) (cnd (decide ((x60 : Int) > 200))
    (J68 true) (cnd (decide ((x61 : Int) < 1)) (J68 true) (cnd (decide ((x61 : Int) > 200)) (J68 true) (0 ≤ (x60 : Int) ∧ (x60 : Int) < ((((201 : Int).toNat) : Nat) : Int) ∧ ∃ x64 : Int, cl H57 g41 (0 + (x60 : Int).toNat
    * 1) = some (.int .i64 x64) ∧ cnd ((x64 : Int) == 0) (J68 true) (0 ≤ (x60 : Int) ∧ (x60 : Int) < ((((201 : Int).toNat) : Nat) : Int) ∧ ∃ x65 : Int, cl H57 g41 (0 + (x60 : Int).toNat * 1) = some (.int .i64 x65) ∧ 0 ≤
    (x61 : Int) ∧ (x61 : Int) < ((((201 : Int).toNat) : Nat) : Int) ∧ ∃ x66 : Int, cl H57 g41 (0 + (x61 : Int).toNat * 1) = some (.int .i64 x66) ∧ J68 (decide ((x65 : Int) ≥ x66)))))))) (jn (fun (j72 : Bool) (H73 : Hp) =>
    Q (.bool j72) H73) fun J74 => cnd ((x55 : Int) == 0) (HCalls Tryz.prog 11 [] H57 fun v69 H70 => ∃ x71 : Bool, v69 = .bool x71 ∧ J74 x71 H70) (J74 false H57))))))) fun J34 => cnd (x10 == s26.1.1) (J34 true) (J34 ((x15
    : Int) != 0)))))
noncomputable def fcx9 : Cx := cx 172 [(19, true)] [(10, ⟨[0, 3, 4, 7, 58, 59], [], [(10, .bool), (60, .int .i64)], []⟩), (20, ⟨[0, 13, 90, 91], [], [(92, .int .i64)], []⟩), (28, ⟨[13, 17, 121, 122], [], [(123, .int .i64)], []⟩)] [(30, (.look 0 (.look 1 (.look 2 (.look 3 (.look 4 (.look 5 (.look 6 (.look 7 (.look 8 (.look 9 (.look 10 (.look 11 (.look 12 (.look 13 (.look 14 (.look 15 (.look 16 (.look 17 (.look 18 (.look 19 (.look 20 (.look 21 (.look 22 (.look 23 (.look 24 (.look 25 (.look 26 (.look 27 (.look 28 (.look 29 (.look 30 (.look 31 (.look 32 (.look 33 (.look 34 (.look 35 (.look 36 (.look 37 (.look 38 .done))))))))))))))))))))))))))))))))))))))))] []
theorem f9.eq (pl_A : Option Addr) (pl_n pl_c : Nat) (H : Hp) (Q : Value → Hp → Prop) : f9 pl_A pl_n pl_c H Q = wFun fcx9 Tryz.f9 [.slice pl_A pl_n pl_c] H Q := by kernel_rfl
theorem f9.ok (pl_A : Option Addr) (pl_n pl_c : Nat) {H : Hp} {Q : Value → Hp → Prop} (h : f9 pl_A pl_n pl_c H Q) : HCalls Tryz.prog 9 [.slice pl_A pl_n pl_c] H Q := hcalls_of (cxOk 172 [(19, true)] [(10, ⟨[0, 3, 4, 7, 58, 59], [], [(10, .bool), (60, .int .i64)], []⟩), (20, ⟨[0, 13, 90, 91], [], [(92, .int .i64)], []⟩), (28, ⟨[13, 17, 121, 122], [], [(123, .int .i64)], []⟩)] [(30, (.look 0 (.look 1 (.look 2 (.look 3 (.look 4 (.look 5 (.look 6 (.look 7 (.look 8 (.look 9 (.look 10 (.look 11 (.look 12 (.look 13 (.look 14 (.look 15 (.look 16 (.look 17 (.look 18 (.look 19 (.look 20 (.look 21 (.look 22 (.look 23 (.look 24 (.look 25 (.look 26 (.look 27 (.look 28 (.look 29 (.look 30 (.look 31 (.look 32 (.look 33 (.look 34 (.look 35 (.look 36 (.look 37 (.look 38 .done))))))))))))))))))))))))))))))))))))))))] []) Tryz.func9 (Eq.mp (f9.eq pl_A pl_n pl_c H Q) h)

end Go.Proofs.YtibhpoikhkokiaaGreat.Hw

/- Histories: HistoryOrder walked (c9). -/
set_option linter.unusedVariables false
set_option linter.unusedSimpArgs false
set_option linter.unusedSectionVars false
set_option maxRecDepth 20000
namespace Go.Proofs.YtibhpoikhkokiaaGreat.Hw
open Go Go.Proofs
def isBad (l : List Ev) : Bool := abTo l l.length || btTo l l.length
section
variable {H H' : Hp} {Q : Value → Hp → Prop} {A : Option Addr} {n c : Nat} {l : List Ev}
theorem rd_str {A : Option Addr} {n : Nat} {l : List ByteArray} {i : Nat} {x : ByteArray} (h : SlAt stC H A n l) (hi : l[i]? = some x) {K : Nat → Nat → Prop}
    (hk : ∀ p o, A = some ⟨p, o, none⟩ → cl H p (o + i) = some (.string x) → K p o) : onPtr A K := by
  have hlen : ∀ x ∈ l, (stC x).length = 1 := fun x _ => rfl
  have hne : l ≠ [] := fun e => by subst e; simp at hi
  refine at_cells h.cells (flat_ne hlen (by omega) hne) fun p o hA hc => hk p o hA ?_
  have := hc (i * 1 + 0) _ (flat_get hlen hi (by omega))
  rw [Nat.mul_one, Nat.add_zero] at this
  exact this
/-- Order, in one piece. -/
theorem c29a (hA : SlAt evC H A n l) (hc : n ≤ c) (h1 : validM l = false → ∀ H', Ext H H' → Q (.tuple #[.slice none 0 0, .bool false, .int .i64 2]) H')
    (h2 : validM l = true → ∀ A' n' c' (b : Bool) H', Ext H H' → (b = true → isBad l = false ∧ ∃ rs o, ArcsOf l rs ∧ orderM rs (comL l).length (comL l) [] = some o ∧ SlAt inC H' A' n' o) → (b = false → n' = 0 ∧ (isBad l = true ∨ ∃ rs, ArcsOf l rs ∧ orderM rs (comL l).length (comL l) [] = none)) → Q (.tuple #[.slice A' n' c', .bool b, .int .i64 0]) H') :
    HCalls Tryz.prog 29 [.slice A n c] H Q := by
  refine c29 hA hc ⟨h1, fun hv hb H' hx => h2 hv _ _ _ false H' hx (fun h => by cases h) fun _ => ⟨rfl, .inl hb⟩, fun hv hb rs ha => ⟨fun ho H' hx => h2 hv _ _ _ false H' hx (fun h => by cases h) fun _ => ⟨rfl, .inr ⟨rs, ha, ho⟩⟩, fun o ho A' c' H' hx hS _ => h2 hv _ _ _ true H' hx (fun _ => ⟨hb, rs, o, ha, ho, hS⟩) fun h => by cases h⟩⟩
/-- Anomaly, in one piece. -/
theorem c23a (hA : SlAt evC H A n l) (hc : n ≤ c) (h1 : validM l = false → ∀ H', Ext H H' → Q (.tuple #[.slice none 0 0, .int .i64 2]) H')
    (h2 : validM l = true → ∀ A' n' c' (e : Int) H', Ext H H' → (∃ rs E ks, ArcsOf l rs ∧ GraphOf rs wA E ∧ (∀ x, x ∈ ks ↔ (E x).isEmpty = false) ∧ (e = 0 ↔ anomF E ks ≠ none)) → Q (.tuple #[.slice A' n' c', .int .i64 e]) H') :
    HCalls Tryz.prog 23 [.slice A n c] H Q := by
  refine c23 hA hc ⟨h1, fun hv rs E ks ha G hs hk => ⟨fun hn H' hx => h2 hv _ _ _ 4 H' hx ⟨rs, E, ks, ha, G, hk, by rw [hn]; simp⟩, fun o ho b c' H' hx _ _ => h2 hv _ _ _ 0 H' hx ⟨rs, E, ks, ha, G, hk, by rw [ho]; simp⟩⟩⟩
/-- An array of places. -/
def ArrAt (H : Hp) (g : Nat) (f : Nat → Int) : Prop := H g = some (.cells ((List.range 201).map fun j => Value.int .i64 (f j)).toArray 3 (0, 0))
theorem ArrAt.get {g : Nat} {f : Nat → Int} {x : Int} (h : ArrAt H g f) (h0 : 0 ≤ x) (h1 : x < 201) : cl H g (0 + x.toNat * 1) = some (.int .i64 (f x.toNat)) := by
  rw [cl_cells h, Nat.zero_add, Nat.mul_one, List.getElem?_map, List.getElem?_range (by omega)]; rfl
theorem ArrAt.set {g : Nat} {f : Nat → Int} {x v : Int} {K : Hp → Prop} (h : ArrAt H g f) (h0 : 0 ≤ x) (h1 : x < 201) (hk : ∀ H', ArrAt H' g (fun j => if j = x.toNat then v else f j) → (∀ q, q ≠ g → H' q = H q) → K H') : storeF H g (0 + x.toNat * 1) [.int .i64 v] K := by
  refine ⟨_, 3, h, by simp; omega, hk _ ?_ fun q hq => upd_off hq⟩
  unfold ArrAt
  rw [upd_at]
  congr 3
  rw [Nat.zero_add, Nat.mul_one]
  unfold setR
  apply List.ext_getElem?
  intro j
  rw [List.getElem?_map]
  by_cases hj : j < 201
  · rw [List.getElem?_range hj]
    simp only [Option.map_some]
    by_cases e : j = x.toNat
    · rw [if_pos e, List.append_assoc, List.getElem?_append_right (by simp; omega), List.length_take, List.length_map, List.length_range]
      rw [show j - min x.toNat 201 = 0 by omega]
      rfl
    · rw [if_neg e, List.append_assoc]
      by_cases e2 : j < x.toNat
      · rw [List.getElem?_append_left (by simp; omega), List.getElem?_take_of_lt e2, List.getElem?_map, List.getElem?_range hj]; rfl
      · rw [List.getElem?_append_right (by simp; omega), List.length_take, List.length_map, List.length_range, List.getElem?_append_right (by simp; omega), List.getElem?_drop, List.getElem?_map]
        rw [show x.toNat + [Value.int .i64 v].length + (j - min x.toNat 201 - [Value.int .i64 v].length) = j by simp; omega, List.getElem?_range hj]; rfl
  · rw [List.getElem?_eq_none (by simp; omega), List.getElem?_eq_none (by simp; omega)]; rfl
theorem posM_snoc {o : List Int} (hn : o.Nodup) {i : Nat} {t : Int} (h : o[i]? = some t) (x : Int) : posM (o.take (i + 1)) x = if x = t then i + 1 else posM (o.take i) x := by
  have hn' : (o.take (i + 1)).Nodup := List.Pairwise.sublist (List.take_sublist _ _) hn
  by_cases e : x = t
  · rw [if_pos e, e]
    exact posM_of hn' (by rw [List.getElem?_take_of_lt (by omega)]; exact h)
  · rw [if_neg e]
    unfold posM
    rw [take_snoc h]
    have : (o.take i ++ [t]).findIdx? (fun y => y == x) = (o.take i).findIdx? (fun y => y == x) := by
      rw [List.findIdx?_append]
      have : [t].findIdx? (fun y => y == x) = none := by
        rw [List.findIdx?_eq_none_iff]
        intro y hy
        rw [List.mem_singleton.1 hy]
        have : t ≠ x := fun h => e h.symm
        simpa using this
      rw [this]
      cases (o.take i).findIdx? (fun y => y == x) <;> rfl
    rw [this]
theorem zeros : (List.replicate ((201 : Int).toNat) [Value.int .i64 0]).flatten = (List.range 201).map fun j => Value.int .i64 ((fun _ => 0 : Nat → Int) j) := by rfl
theorem c9 (hA : SlAt evC H A n l) (hc : n ≤ c) (hq : ∀ H', Ext H H' → Q (.bool true) H') : HCalls Tryz.prog 9 [.slice A n c] H Q := by
  refine f9.ok _ _ _ ?_
  unfold f9
  refine c10 ⟨_, rfl, cndI (fun _ => c11 fun H5 x5 => ⟨_, rfl, hq H5 x5⟩) fun _ => ?_⟩
  cases hv : validM l with
  | false =>
    refine c29a hA hc (fun _ H8 x8 => ⟨_, _, _, _, _, rfl, ?_⟩) fun h => by rw [hv] at h; cases h
    refine c13 (hA.ext x8) hc ⟨fun _ H13 x13 => ⟨_, _, _, _, rfl, ?_⟩, fun h => by rw [hv] at h; cases h⟩
    refine c23a ((hA.ext x8).ext x13) hc (fun _ H17 x17 => ⟨_, _, _, _, rfl, ?_⟩) fun h => by rw [hv] at h; cases h
    refine cndT rfl (jn_intro (fun J => ∀ H', Ext H H' → J true H') (fun H' hx => hq H' hx) fun J hJ => cndT rfl (cndT rfl (cndT rfl (c11 fun H21 x21 => ⟨_, rfl, hJ H21 (((x8.trans x13).trans x17).trans x21)⟩))))
  | true =>
  obtain ⟨hok, hlen⟩ := valid_ok hv
  refine c29a hA hc (fun h => by rw [hv] at h; cases h) fun _ A9 n9 cp9 isb H8 x8 ht hf => ⟨_, _, _, _, _, rfl, ?_⟩
  refine c13 (hA.ext x8) hc ⟨(fun h => by rw [hv] at h; cases h), fun _ rs A14 c14 H13 ha x13 S14 _ => ⟨_, _, _, _, rfl, ?_⟩⟩
  refine c23a ((hA.ext x8).ext x13) hc (fun h => by rw [hv] at h; cases h) fun _ A18 n18 cp18 e H17 x17 hE => ⟨_, _, _, _, rfl, cndF rfl ?_⟩
  obtain ⟨rs2, E, ks, ha2, G, hks, he⟩ := hE
  obtain rfl := arcs_one ha ha2
  have hoa := order_anom hok ha G hks
  have S17 := S14.ext x17
  have hx17 := (x8.trans x13).trans x17
  have hl14 := S17.lt
  refine loop_to (faultsF l rs).length (fun i st H' => H' = H17 ∧ st = ((((e == 0) || ((faultsF l rs).take i).any badS), ((i : Int), ())), ())) ⟨rfl, by simp⟩ ?_
  rintro i st H27 next hi ⟨rfl, rfl⟩ hnext
  dsimp only
  by_cases h : i < (faultsF l rs).length
  · obtain ⟨s, hs⟩ := get_of h
    have ei : IntKind.i64.wrap ((i : Int) + 1) = ((i + 1 : Nat) : Int) := by rw [wrap_id (by omega) (by omega)]; rfl
    refine cndT (decide_eq_true (by omega)) (jn_intro (fun J => ∀ b, b = (((e == 0) || ((faultsF l rs).take i).any badS) || badS s) → J b) (fun b hb => ⟨rfl, hnext _ _ h ⟨rfl, by rw [ei, any_take_succ hs, hb, Bool.or_assoc]⟩⟩) fun J hJ => ⟨by omega, by omega, rd_str S17 hs fun q o _ k1 => ⟨s, by simpa using k1, ?_⟩⟩)
    refine cndI (fun h1 => hJ _ (by rw [h1]; rfl)) fun h1 => cndI (fun h2 => hJ _ ?_) fun h2 => hJ _ ?_
    · have : badS s = true := by unfold badS; rw [show (s.toList == sAb.toList) = true from h2]; rfl
      rw [this, Bool.or_true]
    · have : badS s = (s.toList == sBt.toList) := by unfold badS; rw [show (s.toList == sAb.toList) = false from h2]; rfl
      rw [h1, this]; rfl
  · obtain rfl : i = (faultsF l rs).length := by omega
    rw [List.take_length, faults_bad]
    have hbad : ((e == 0) || (abTo l l.length || btTo l l.length)) = !isb := by
      cases isb with
      | true =>
        obtain ⟨hb, rs3, o, ha3, ho, _⟩ := ht rfl
        obtain rfl := arcs_one ha ha3
        have h1 : ¬ e = 0 := fun h => by
          have := hoa.2 (he.1 h)
          rw [ho] at this; cases this
        have h2 : (e == 0) = false := by simpa using h1
        have hb : (abTo l l.length || btTo l l.length) = false := hb
        rw [h2, hb]; rfl
      | false =>
        obtain ⟨_, hb | ⟨rs3, ha3, ho⟩⟩ := hf rfl
        · have hb : (abTo l l.length || btTo l l.length) = true := hb
          rw [hb, Bool.or_true]; rfl
        · obtain rfl := arcs_one ha ha3
          have h1 : e = 0 := he.2 (hoa.1 ho)
          rw [h1]; rfl
    rw [hbad]
    refine cndF (decide_eq_false (by omega)) (jn_intro (fun J => J false) (cndF rfl ?_) fun J hJ => cndF (by cases isb <;> rfl) hJ)
    cases isb with
    | false =>
      obtain ⟨rfl, _⟩ := hf rfl
      exact cndT rfl (jn_intro (fun J => ∀ H', Ext H H' → J true H') (fun H' hx => hq H' hx) fun J hJ => cndT rfl (c11 fun H36 x36 => ⟨_, rfl, hJ H36 (hx17.trans x36)⟩))
    | true =>
      obtain ⟨_, rs3, o, ha3, ho, So⟩ := ht rfl
      obtain rfl := arcs_one ha ha3
      have hg := order_good hok ha ho
      have So := (So.ext x13).ext x17
      obtain rfl := So.len
      have hol := So.lt
      have hin : ∀ t ∈ o, 1 ≤ t ∧ t ≤ 200 := fun t ht => com_in hok ((hg.mem t).1 ht)
      refine cndF rfl ⟨rfl, by decide, by decide, fun g41 hg41 => ?_⟩
      rw [zeros]
      have e42 : ArrAt (upd g41 (Obj.cells ((List.range 201).map fun j => Value.int .i64 ((fun _ => 0 : Nat → Int) j)).toArray 3 (0, 0)) H27) g41 (fun _ => 0) := upd_at
      have x42 : Ext H27 (upd g41 (Obj.cells ((List.range 201).map fun j => Value.int .i64 ((fun _ => 0 : Nat → Int) j)).toArray 3 (0, 0)) H27) := Ext.new hg41
      generalize (upd g41 (Obj.cells ((List.range 201).map fun j => Value.int .i64 ((fun _ => 0 : Nat → Int) j)).toArray 3 (0, 0)) H27) = H42 at e42 x42 ⊢
      refine scan hol (fun i H' => Ext H27 H' ∧ ArrAt H' g41 (fun j => (posM (o.take i) (j : Int) : Nat))) ⟨x42, e42⟩ (fun i H44 next2 hi2 hI hnext2 => ?_) (fun H44 next2 hI => ?_)
      · obtain ⟨hx44, hAr⟩ := hI
        obtain ⟨t, ht⟩ := get_of hi2
        have htm := hin t (List.mem_of_getElem? ht)
        have htn : t ∉ o.take i := fun hm => by
          have hn' : (o.take (i + 1)).Nodup := List.Pairwise.sublist (List.take_sublist _ _) hg.nodup
          rw [take_snoc ht, List.nodup_append] at hn'
          exact hn'.2.2 t hm t (by simp) rfl
        dsimp only
        refine cndT (decide_eq_true (by omega)) ⟨by omega, by omega, rd_in (So.ext hx44) ht fun q o' _ k1 => ⟨t, by simpa using k1, ?_⟩⟩
        have ew : IntKind.i64.wrap ((i : Int) + 1) = ((i + 1 : Nat) : Int) := by rw [wrap_id (by omega) (by omega)]; rfl
        refine jn_intro (fun J => J false) (cndF rfl ⟨by omega, by show t < ((201 : Nat) : Int); omega, ArrAt.set hAr (by omega) (by omega) fun H51 e51 f51 => ⟨rfl, hnext2 H51 ⟨fun q ob hq' => ?_, ?_⟩⟩⟩) fun J hJ => cndF (decide_eq_false (by omega)) (cndF (decide_eq_false (by omega)) ⟨by omega, by show t < ((201 : Nat) : Int); omega, _, hAr.get (by omega) (by omega), ?_⟩)
        · rw [f51 q fun e => by rw [e, hg41] at hq'; cases hq']
          exact hx44 q ob hq'
        · unfold ArrAt at e51 ⊢
          rw [e51]
          congr 4
          funext j
          show Value.int .i64 (if j = t.toNat then IntKind.i64.wrap ((i : Int) + 1) else ((posM (o.take i) (j : Int) : Nat) : Int)) = Value.int .i64 ((posM (o.take (i + 1)) (j : Int) : Nat) : Int)
          rw [ew, posM_snoc hg.nodup ht]
          by_cases ej : j = t.toNat
          · rw [if_pos ej, if_pos (by omega)]
          · rw [if_neg ej, if_neg (by omega)]
        · have : ((t.toNat : Nat) : Int) = t := by omega
          rw [this, posM_not htn]; exact hJ
      · obtain ⟨hx44, hAr⟩ := hI
        rw [List.take_length] at hAr
        dsimp only
        refine cndF (decide_eq_false (by omega)) ?_
        refine c18 (hA.ext (hx17.trans hx44)) hc ⟨(fun h => by rw [hv] at h; cases h), fun _ rs4 A54 c54 H53 ha4 x53 S54 _ => ⟨_, _, _, _, rfl, ?_⟩⟩
        obtain rfl := arcs_one ha ha4
        have hAr53 : ArrAt H53 g41 (fun j => (posM o (j : Int) : Nat)) := x53 _ _ hAr
        refine scan S54.lt (fun i H' => H' = H53) rfl (fun i H57 next3 hi3 hI hnext3 => ?_) (fun H57 next3 hI => ?_)
        · obtain rfl := hI
          obtain ⟨x, hx⟩ := get_of hi3
          have hxm := List.mem_of_getElem? hx
          obtain ⟨_, hca, hcb, _⟩ := arc_iff.1 ((ha.2 x).1 hxm)
          have ha1 := com_in hok hca
          have hb1 := com_in hok hcb
          have hld := hg.lead x hxm
          have ea : ((x.a.toNat : Nat) : Int) = x.a := by omega
          have eb : ((x.b.toNat : Nat) : Int) = x.b := by omega
          have ra := hAr53.get (x := x.a) (by omega) (by omega)
          have rb := hAr53.get (x := x.b) (by omega) (by omega)
          rw [ea] at ra
          rw [eb] at rb
          have la : x.a < ((201 : Nat) : Int) := by omega
          have lb : x.b < ((201 : Nat) : Int) := by omega
          dsimp only
          refine cndT (decide_eq_true (by omega)) ⟨by omega, by omega, rd_ar S54 hx fun q o' _ k1 k2 k3 k4 => ⟨x.a, by simpa using k1, x.b, by simpa using k2, x.kind, by simpa using k3, x.item, by simpa using k4, ?_⟩⟩
          refine jn_intro (fun J => J false) (cndF rfl ⟨rfl, hnext3 H57 rfl⟩) fun J hJ => cndF (decide_eq_false (by omega)) (cndF (decide_eq_false (by omega)) (cndF (decide_eq_false (by omega)) (cndF (decide_eq_false (by omega)) ⟨by omega, la, _, ra, cndF ?_ ⟨by omega, la, _, ra, by omega, lb, _, rb, ?_⟩⟩)))
          · have : ((posM o x.a : Nat) : Int) ≠ 0 := by omega
            simpa using this
          · rw [decide_eq_false (by omega)]; exact hJ
        · obtain rfl := hI
          dsimp only
          exact cndF (decide_eq_false (by omega)) (jn_intro (fun J => ∀ H', Ext H H' → J true H') (fun H' hx => hq H' hx) fun J hJ => cndT rfl (c11 fun H70 x70 => ⟨_, rfl, hJ H70 (((hx17.trans hx44).trans x53).trans x70)⟩))
end
end Go.Proofs.YtibhpoikhkokiaaGreat.Hw
