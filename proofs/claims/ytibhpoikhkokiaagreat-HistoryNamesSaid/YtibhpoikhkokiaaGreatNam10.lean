/- Vd HwFc Ve Vf HwRow Vg Vi Vj Vk (joined by merge.py) -/
import Derived.Test.YtibhpoikhkokiaaGreatNam9
import Derived.Test.YtibhpoikhkokiaaGreatNam3
import Derived.Test.YtibhpoikhkokiaaGreatNam4
import Derived.ChangeReads
import Derived.ChangeSame
import Derived.Deep.Slices
import Derived.SizedLaws
import Derived.Test.YtibhpoikhkokiaaGreatRows
import Derived.ProofKit
/- Histories: what the fixed calls give. -/
set_option linter.unusedVariables false
set_option linter.unusedSimpArgs false
set_option maxRecDepth 20000
namespace Go.Proofs.YtibhpoikhkokiaaGreat.Hw
open Go Go.Proofs
def lostL : List Ev := [⟨1, 1, 0, 0, 0⟩, ⟨1, 2, 0, 0, 0⟩, ⟨2, 1, 1, 0, 1⟩, ⟨2, 2, 1, 0, 1⟩, ⟨3, 1, 1, 0, 2⟩, ⟨4, 1, 0, 0, 0⟩, ⟨3, 2, 1, 0, 2⟩, ⟨4, 2, 0, 0, 0⟩]
def oneL : List Ev := [⟨1, 2, 0, 0, 0⟩, ⟨2, 2, 1, 0, 1⟩, ⟨3, 2, 1, 0, 1⟩, ⟨4, 2, 0, 0, 0⟩, ⟨1, 1, 0, 0, 0⟩, ⟨2, 1, 1, 2, 1⟩, ⟨4, 1, 0, 0, 0⟩]
def badL : List Ev := [⟨1, 0, 0, 0, 0⟩]
theorem lost_valid : validM lostL = true := by kernel_rfl
theorem one_valid : validM oneL = true := by kernel_rfl
theorem bad_valid : validM badL = false := by kernel_rfl
theorem lost_ab : abTo lostL 8 = false := by kernel_rfl
theorem lost_bt : btTo lostL 8 = false := by kernel_rfl
theorem one_ab : abTo oneL 7 = false := by kernel_rfl
theorem one_bt : btTo oneL 7 = false := by kernel_rfl
theorem lost_serial : fitsM lostL all200 = false := by kernel_rfl
theorem lost_com : fitsM lostL [] = true := by kernel_rfl
theorem one_fits : fitsM oneL [1, 2] = true := by kernel_rfl
/-- All arcs, in some order. -/
def arcL (l : List Ev) : List Arc := (l.map (·.item)).flatMap (fun k => wwTo l k ((versM l k).length - 1)) ++ rdTo l l.length
theorem mem_arcL {l : List Ev} {x : Arc} : IsArc l x ↔ x ∈ arcL l := by
  unfold IsArc arcL
  rw [List.mem_append]
  refine or_congr_left ?_
  rw [List.mem_flatMap]
  constructor
  · rintro ⟨k, hk⟩
    refine ⟨k, vers_item (?_ : (versM l k).isEmpty = false), hk⟩
    cases he : (versM l k).isEmpty with
    | false => rfl
    | true => rw [List.isEmpty_iff.1 he] at hk; simp [wwTo] at hk
  · rintro ⟨k, _, hk⟩
    exact ⟨k, hk⟩
theorem arcs_by {l : List Ev} {rs : List Arc} (h : rs.Pairwise ltA) (h1 : ((arcL l).all (fun x => rs.contains x) && rs.all (fun x => (arcL l).contains x)) = true) : ArcsOf l rs := by
  rw [Bool.and_eq_true, List.all_eq_true, List.all_eq_true] at h1
  exact ⟨h, fun x => by rw [mem_arcL]; exact ⟨fun hx => List.contains_iff_mem.1 (h1.2 x hx), fun hx => List.contains_iff_mem.1 (h1.1 x hx)⟩⟩
def lostA : List Arc := [⟨1, 2, 1, 1⟩, ⟨2, 1, 3, 1⟩]
def oneA : List Arc := [⟨2, 1, 2, 1⟩]
theorem lost_arcs : ArcsOf lostL lostA := arcs_by (by unfold lostA ltA; simp) (by kernel_rfl)
theorem one_arcs : ArcsOf oneL oneA := arcs_by (by unfold oneA; simp) (by kernel_rfl)
/-- What stays in a set of places. -/
theorem reach_in {rs : List Arc} {want : Int → Bool} {s y : Int} {S : Int → Prop} (h0 : S s) (hc : ∀ x ∈ rs, want x.kind = true → S x.a → S x.b) (h : ReachR rs want s y) : S y := by
  induction h with
  | refl => exact h0
  | step _ hx hw ih => exact hc _ hx hw ih
theorem lost_mem {x : Arc} : x ∈ lostA ↔ x = ⟨1, 2, 1, 1⟩ ∨ x = ⟨2, 1, 3, 1⟩ := by unfold lostA; simp
theorem lost_c1 : circB lostA 1 wW = false := by
  rw [← Bool.not_eq_true, circB_iff]
  rintro ⟨x, hx, hk, hr⟩
  have := reach_in (S := fun z => z = 2) ?_ (fun y hy hw he => ?_) hr
  · rcases lost_mem.1 hx with rfl | rfl
    · exact absurd this (by decide)
    · exact absurd hk (by decide)
  · rcases lost_mem.1 hx with rfl | rfl
    · rfl
    · exact absurd hk (by decide)
  · rcases lost_mem.1 hy with rfl | rfl
    · rfl
    · exact absurd hw (by decide)
theorem lost_c2 : circB lostA 2 wP = false := by
  rw [← Bool.not_eq_true, circB_iff]
  rintro ⟨x, hx, hk, hr⟩
  rcases lost_mem.1 hx with rfl | rfl <;> exact absurd hk (by decide)
theorem lost_c3 : circB lostA 3 wP = true := by
  rw [circB_iff]
  refine ⟨⟨2, 1, 3, 1⟩, lost_mem.2 (.inr rfl), rfl, ?_⟩
  have h1 : ReachR lostA wP 1 1 := .refl
  exact .step (x := ⟨1, 2, 1, 1⟩) h1 (lost_mem.2 (.inl rfl)) rfl
theorem lost_faults : faultsF lostL lostA = [sRw] := by
  unfold faultsF
  rw [show lostL.length = 8 from rfl, lost_ab, lost_bt, lost_c1, lost_c2, lost_c3]
  rfl
theorem strict_one : ∀ {a b : List Int}, Strict a → Strict b → (∀ x, x ∈ a ↔ x ∈ b) → a = b := fun {a b} ha hb h => by
  refine List.Perm.eq_of_pairwise (le := fun x y => x < y) (fun x y _ _ h1 h2 => by omega) ha hb ?_
  exact (List.perm_ext_iff_of_nodup (strict_nodup ha) (strict_nodup hb)).2 h
theorem sort_by {a b : List Int} (hb : Strict b) (ha : a.Nodup) (h : ∀ x, x ∈ a ↔ x ∈ b) : sortM a = b := strict_one (strict_sort ha) hb fun x => sortM_mem.trans (h x)
theorem lost_order : orderM lostA (comL lostL).length (comL lostL) [] = none := by
  have e : comL lostL = [1, 2] := by rfl
  rw [e]
  show orderM lostA (1 + 1) [1, 2] [] = none
  unfold orderM
  have hs : sortM [1, 2] = [1, 2] := sort_by (by unfold Strict; simp) (by simp) (fun x => Iff.rfl)
  have hf : freeM lostA [1, 2] = none := by unfold freeM; rw [hs]; rfl
  rw [hf]; rfl
theorem one_order : orderM oneA (comL oneL).length (comL oneL) [] = some [2, 1] := by
  have e : comL oneL = [2, 1] := by rfl
  rw [e]
  show orderM oneA (1 + 1) [2, 1] [] = some [2, 1]
  have hs : sortM [2, 1] = [1, 2] := sort_by (by unfold Strict; simp) (by simp) (fun x => by simp [or_comm])
  have hf : freeM oneA [2, 1] = some 2 := by unfold freeM; rw [hs]; rfl
  have hs1 : sortM [1] = [1] := sort_by (by unfold Strict; simp) (by simp) (fun x => Iff.rfl)
  have hf1 : freeM oneA [1] = some 1 := by unfold freeM; rw [hs1]; rfl
  unfold orderM
  rw [hf]
  show orderM oneA (0 + 1) (takeOut [2, 1] 2) ([] ++ [2]) = _
  rw [show takeOut [2, 1] 2 = [1] by rfl]
  unfold orderM
  rw [hf1]
  rfl
theorem lost_anom {E : Int → List Int} {ks : List Int} (G : GraphOf lostA wA E) (hs : Strict ks) (hk : ∀ x, x ∈ ks ↔ (E x).isEmpty = false) : anomF E ks = some [1, 2] := by
  have mem : ∀ x y, y ∈ E x ↔ (x = 1 ∧ y = 2) ∨ (x = 2 ∧ y = 1) := fun x y => by
    rw [(G x).2 y]
    constructor
    · rintro ⟨a, ha, rfl, rfl, _⟩
      rcases lost_mem.1 ha with rfl | rfl
      · exact .inl ⟨rfl, rfl⟩
      · exact .inr ⟨rfl, rfl⟩
    · rintro (⟨rfl, rfl⟩ | ⟨rfl, rfl⟩)
      · exact ⟨_, lost_mem.2 (.inl rfl), rfl, rfl, rfl⟩
      · exact ⟨_, lost_mem.2 (.inr rfl), rfl, rfl, rfl⟩
  have e1 : E 1 = [2] := strict_one (G 1).1 (by unfold Strict; simp) fun y => by rw [mem]; simp
  have e2 : E 2 = [1] := strict_one (G 2).1 (by unfold Strict; simp) fun y => by rw [mem]; simp
  have e3 : ks = [1, 2] := strict_one hs (by unfold Strict; simp) fun x => by
    rw [hk]
    constructor
    · intro h
      cases hE : E x with
      | nil => rw [hE] at h; cases h
      | cons y r =>
        have := (mem x y).1 (by rw [hE]; exact List.mem_cons_self)
        simp; omega
    · intro h
      simp at h
      rcases h with rfl | rfl
      · rw [e1]; rfl
      · rw [e2]; rfl
  have w1 : ∀ k x, WalkR E 1 k x ↔ (k = 0 ∧ x = 1) ∨ (k = 1 ∧ x = 2) := fun k x => by
    constructor
    · intro h
      induction h with
      | zero => exact .inl ⟨rfl, rfl⟩
      | @succ k x y h1 h2 _ ih => have := (mem x y).1 h2; omega
    · rintro (⟨rfl, rfl⟩ | ⟨rfl, rfl⟩)
      · exact .zero
      · exact .succ (by decide) ((mem 2 1).2 (.inr ⟨rfl, rfl⟩)) .zero
  have s1 : shortF E 1 = some [1, 2] := by
    refine shortF_eq ⟨fun z => if z = 1 then some 0 else if z = 2 then some 1 else none, fun x k => ?_, ?_⟩
    · simp only [w1]
      constructor
      · intro h
        split at h
        · cases h; rename_i e; exact ⟨.inl ⟨rfl, e⟩, fun j hj => Nat.zero_le _⟩
        · split at h
          · cases h; rename_i e1 e2; exact ⟨.inr ⟨rfl, e2⟩, fun j hj => by omega⟩
          · cases h
      · rintro ⟨⟨rfl, rfl⟩ | ⟨rfl, rfl⟩, _⟩ <;> rfl
    · refine .go (b := 2) ?_ (by decide) (.fin ?_)
      · unfold bestM; rw [e1]; rfl
      · unfold bestM; rw [e2]; rfl
  have s2 : shortF E 2 = none := by
    refine shortF_eq ⟨fun z => if z = 2 then some 0 else none, fun x k => ?_, ?_⟩
    · constructor
      · intro h
        replace h : (if x = 2 then some 0 else none : Option Nat) = some k := h
        split at h
        · cases h; rename_i e; rw [e]; exact ⟨.zero, fun j hj => Nat.zero_le _⟩
        · cases h
      · rintro ⟨h, _⟩
        cases h with
        | zero => rfl
        | succ h1 h2 h3 => have := (mem _ _).1 h2; omega
    · refine .no ?_
      unfold bestM; rw [e2]; rfl
  rw [e3]
  unfold anomF
  rw [List.foldl_cons, List.foldl_cons, List.foldl_nil]
  unfold anS
  rw [s1, s2]
theorem one_only : onlyM oneL [1] = [⟨1, 1, 0, 0, 0⟩, ⟨2, 1, 1, 0, 1⟩, ⟨4, 1, 0, 0, 0⟩] := by rfl
end Go.Proofs.YtibhpoikhkokiaaGreat.Hw

/- What functions of the program come to, by the evaluator: printed by a program of this session (gen.py) and checked here. -/
set_option linter.unusedVariables false
set_option maxRecDepth 100000
namespace Go.Proofs.YtibhpoikhkokiaaGreat.Hw
open Go Go.Proofs

/-- justiciar justiciarref18.SameInts -/
def f25 (pa_A : Option Addr) (pa_n pa_c : Nat) (pb_A : Option Addr) (pb_n pb_c : Nat) (H : Hp) (Q : Value → Hp → Prop) : Prop :=
  cnd ((((pa_n : Nat) : Int) : Int) != ((pb_n : Nat) : Int)) (Q (.bool false) H) (LoopF (σ := (Int × Unit) × Unit) ((0, ()), ()) H fun s1 H2 next3 => cnd (decide ((s1.1.1 : Int) < ((pa_n : Nat) : Int))) (0 ≤ (s1.1.1 : Int)
    ∧ (s1.1.1 : Int) < ((pa_n : Nat) : Int) ∧ onPtr pa_A fun b4 o4 => ∃ x5 : Int, cl H2 b4 (o4 + (s1.1.1 : Int).toNat * 1) = some (.int .i64 x5) ∧ 0 ≤ (s1.1.1 : Int) ∧ (s1.1.1 : Int) < ((pb_n : Nat) : Int) ∧ onPtr pb_A
    fun b6 o6 => ∃ x7 : Int, cl H2 b6 (o6 + (s1.1.1 : Int).toNat * 1) = some (.int .i64 x7) ∧ cnd ((x5 : Int) != x7) (Q (.bool false) H2) (KeepX [some (.v (.slice pa_A pa_n pa_c)), some (.v (.slice pb_A pb_n pb_c)), some
    (.v (.int .i64 ((pa_n : Nat) : Int)))] [] ∧ next3 ((IntKind.i64.wrap (s1.1.1 + 1), ()), ()) H2)) (Q (.bool true) H2))
noncomputable def fcx25 : Cx := cx 26 [] [(4, ⟨[0, 1, 12], [], [(13, .int .i64)], []⟩)] [(6, (.look 0 (.look 1 (.look 2 (.look 3 (.look 4 (.look 5 (.look 6 (.look 7 (.look 8 .done))))))))))] []
theorem f25.eq (pa_A : Option Addr) (pa_n pa_c : Nat) (pb_A : Option Addr) (pb_n pb_c : Nat) (H : Hp) (Q : Value → Hp → Prop) : f25 pa_A pa_n pa_c pb_A pb_n pb_c H Q = wFun fcx25 Tryz.f25 [.slice pa_A pa_n pa_c, .slice pb_A pb_n pb_c] H Q := by kernel_rfl
theorem f25.ok (pa_A : Option Addr) (pa_n pa_c : Nat) (pb_A : Option Addr) (pb_n pb_c : Nat) {H : Hp} {Q : Value → Hp → Prop} (h : f25 pa_A pa_n pa_c pb_A pb_n pb_c H Q) : HCalls Tryz.prog 25 [.slice pa_A pa_n pa_c, .slice pb_A pb_n pb_c] H Q := hcalls_of (cxOk 26 [] [(4, ⟨[0, 1, 12], [], [(13, .int .i64)], []⟩)] [(6, (.look 0 (.look 1 (.look 2 (.look 3 (.look 4 (.look 5 (.look 6 (.look 7 (.look 8 .done))))))))))] []) Tryz.func25 (Eq.mp (f25.eq pa_A pa_n pa_c pb_A pb_n pb_c H Q) h)

end Go.Proofs.YtibhpoikhkokiaaGreat.Hw

/- Histories: awake (c11). -/
set_option linter.unusedVariables false
set_option linter.unusedSimpArgs false
set_option maxRecDepth 20000
namespace Go.Proofs.YtibhpoikhkokiaaGreat.Hw
open Go Go.Proofs
section
variable {H H' : Hp} {Q : Value → Hp → Prop}
/-- The same numbers. -/
theorem c25 {A B : Option Addr} {n k ca cb : Nat} {l r : List Int} (hA : SlAt inC H A n l) (hB : SlAt inC H B k r) (hq : Q (.bool (decide (l = r))) H) : HCalls Tryz.prog 25 [.slice A n ca, .slice B k cb] H Q := by
  refine f25.ok _ _ _ _ _ _ ?_
  unfold f25
  obtain rfl := hA.len
  obtain rfl := hB.len
  have hl1 := hA.lt
  have hl2 := hB.lt
  refine cndI (fun hne => ?_) fun heq => ?_
  · have : l ≠ r := fun e => by subst e; simp at hne
    rw [decide_eq_false this] at hq; exact hq
  have hlen : l.length = r.length := by
    have : ((l.length : Int) != (r.length : Int)) = false := heq
    simp at this; omega
  refine scan hl1 (fun i H' => H' = H ∧ l.take i = r.take i) ⟨rfl, by simp⟩ (fun i H2 next hi hI hnext => ?_) (fun H2 next hI => ?_)
  · obtain ⟨rfl, ht⟩ := hI
    obtain ⟨x, hx⟩ := get_of hi
    obtain ⟨y, hy⟩ := get_of (l := r) (i := i) (by omega)
    dsimp only
    refine cndT (decide_eq_true (by omega)) ⟨by omega, by omega, rd_in hA hx fun q o _ k1 => ⟨x, by simpa using k1, by omega, by omega, rd_in hB hy fun q o _ k2 => ⟨y, by simpa using k2, cndI (fun hne => ?_) fun he => ⟨rfl, hnext H2 ⟨rfl, ?_⟩⟩⟩⟩⟩
    · have : l ≠ r := fun e => by
        subst e
        rw [hx] at hy; cases hy; simp at hne
      rw [decide_eq_false this] at hq; exact hq
    · have he : x = y := by simpa using he
      rw [take_snoc hx, take_snoc hy, ht, he]
  · obtain ⟨rfl, ht⟩ := hI
    rw [List.take_length, hlen, List.take_length] at ht
    dsimp only
    refine cndF (decide_eq_false (by omega)) ?_
    rw [decide_eq_true ht] at hq; exact hq
theorem c34 {t : Int} (hq : Q (.agg #[.int .i64 1, .int .i64 t, .int .i64 0, .int .i64 0, .int .i64 0]) H) : HCalls Tryz.prog 34 [.int .i64 t] H Q := by
  refine f34.ok _ ?_
  unfold f34; exact hq
theorem c35 {t i f s : Int} (hq : Q (.agg #[.int .i64 2, .int .i64 t, .int .i64 i, .int .i64 f, .int .i64 s]) H) : HCalls Tryz.prog 35 [.int .i64 t, .int .i64 i, .int .i64 f, .int .i64 s] H Q := by
  refine f35.ok _ _ _ _ ?_
  unfold f35; exact hq
theorem c36 {t i s : Int} (hq : Q (.agg #[.int .i64 3, .int .i64 t, .int .i64 i, .int .i64 0, .int .i64 s]) H) : HCalls Tryz.prog 36 [.int .i64 t, .int .i64 i, .int .i64 s] H Q := by
  refine f36.ok _ _ _ ?_
  unfold f36; exact hq
theorem c37 {t : Int} (hq : Q (.agg #[.int .i64 4, .int .i64 t, .int .i64 0, .int .i64 0, .int .i64 0]) H) : HCalls Tryz.prog 37 [.int .i64 t] H Q := by
  refine f37.ok _ ?_
  unfold f37; exact hq
/-- A new block of fixed cells as a slice. -/
theorem fresh_sl {α : Type} {f : α → List Value} {g ty : Nat} {l : List α} {vs : List Value} (hv : vs = l.flatMap f) (hs : l.length < huge) : SlAt f (upd g (.cells vs.toArray ty (0, 0)) H) (some ⟨g, 0, none⟩) l.length l :=
  ⟨rfl, .inr ⟨g, 0, rfl, fun j v hj => by rw [cl_cells upd_at, Nat.zero_add, hv]; exact hj⟩, hs⟩
theorem fitsQ_of {l : List Ev} {T : List Int} {v f : Bool} (hv : validM l = v) (hf : fitsM l T = f) (h : ∀ H', Ext H H' → Q (.tuple #[.bool (v && f), .int .i64 (if v then 0 else 2)]) H') : FitsQ H Q l T := by
  subst hv hf; exact h
theorem c11 (hq : ∀ H', Ext H H' → Q (.bool true) H') : HCalls Tryz.prog 11 [] H Q := by
  refine f11.ok ?_
  unfold f11
  refine c34 ⟨_, _, _, _, _, rfl, c34 ⟨_, _, _, _, _, rfl, c35 ⟨_, _, _, _, _, rfl, c35 ⟨_, _, _, _, _, rfl, c36 ⟨_, _, _, _, _, rfl, c37 ⟨_, _, _, _, _, rfl, c36 ⟨_, _, _, _, _, rfl, c37 ⟨_, _, _, _, _, rfl, fun g57 hg57 => ?_⟩⟩⟩⟩⟩⟩⟩⟩
  have hL := fresh_sl (H := H) (g := g57) (ty := 35) (f := evC) (l := lostL) (vs := lostL.flatMap evC) rfl (by unfold huge; decide)
  have x58 : Ext H (upd g57 (Obj.cells (lostL.flatMap evC).toArray 35 (0, 0)) H) := Ext.new hg57
  change HCalls _ _ _ (upd g57 (Obj.cells (lostL.flatMap evC).toArray 35 (0, 0)) H) _
  generalize (upd g57 (Obj.cells (lostL.flatMap evC).toArray 35 (0, 0)) H) = H58 at hL x58 ⊢
  have hL : SlAt evC H58 (some ⟨g57, 0, none⟩) 8 lostL := hL
  refine c13 hL (Nat.le_refl _) ⟨(fun h => by rw [lost_valid] at h; cases h), fun _ rs A61 c61 H60 ha x60 S61 _ => ⟨_, _, _, _, rfl, ?_⟩⟩
  obtain rfl := arcs_one ha lost_arcs
  rw [lost_faults] at S61 ⊢
  clear ha
  have hL60 := hL.ext x60
  refine c17 hL60 (Nat.le_refl _) (fitsQ_of lost_valid lost_serial fun H64 x64 => ⟨_, _, rfl, ?_⟩)
  have hL64 := hL60.ext x64
  refine c16 hL64 (Nat.le_refl _) (fitsQ_of lost_valid lost_com fun H68 x68 => ⟨_, _, rfl, ?_⟩)
  have hL68 := hL64.ext x68
  refine c18 hL68 (Nat.le_refl _) ⟨(fun h => by rw [lost_valid] at h; cases h), fun _ rs A73 c73 H72 ha x72 S73 _ => ⟨_, _, _, _, rfl, ?_⟩⟩
  obtain rfl := arcs_one ha lost_arcs
  have hL72 := hL68.ext x72
  refine c29 hL72 (Nat.le_refl _) ⟨(fun h => by rw [lost_valid] at h; cases h), (fun _ h => by rw [show lostL.length = 8 from rfl, lost_ab, lost_bt] at h; cases h), fun _ _ rs ha => ⟨fun ho H76 x76 => ⟨_, _, _, _, _, rfl, ?_⟩, (fun o ho => by rw [arcs_one ha lost_arcs, lost_order] at ho; cases ho)⟩⟩
  have hL76 := hL72.ext x76
  refine c23 hL76 (Nat.le_refl _) ⟨(fun h => by rw [lost_valid] at h; cases h), fun _ rs E ks ha G hs hk => ?_⟩
  obtain rfl := arcs_one ha lost_arcs
  rw [lost_anom G hs hk]
  refine ⟨(fun h => by cases h), fun o ho b82 c82 H81 x81 S82 _ => ⟨_, _, _, _, rfl, ?_⟩⟩
  cases ho
  refine c34 ⟨_, _, _, _, _, rfl, c35 ⟨_, _, _, _, _, rfl, c36 ⟨_, _, _, _, _, rfl, c37 ⟨_, _, _, _, _, rfl, c34 ⟨_, _, _, _, _, rfl, c35 ⟨_, _, _, _, _, rfl, c37 ⟨_, _, _, _, _, rfl, fun g133 hg133 => ?_⟩⟩⟩⟩⟩⟩⟩
  have hO := fresh_sl (H := H81) (g := g133) (ty := 35) (f := evC) (l := oneL) (vs := oneL.flatMap evC) rfl (by unfold huge; decide)
  have x134 : Ext H81 (upd g133 (Obj.cells (oneL.flatMap evC).toArray 35 (0, 0)) H81) := Ext.new hg133
  change HCalls _ _ _ (upd g133 (Obj.cells (oneL.flatMap evC).toArray 35 (0, 0)) H81) _
  generalize (upd g133 (Obj.cells (oneL.flatMap evC).toArray 35 (0, 0)) H81) = H134 at hO x134 ⊢
  have hO : SlAt evC H134 (some ⟨g133, 0, none⟩) 7 oneL := hO
  refine c29 hO (Nat.le_refl _) ⟨(fun h => by rw [one_valid] at h; cases h), (fun _ h => by rw [show oneL.length = 7 from rfl, one_ab, one_bt] at h; cases h), fun _ _ rs ha => ?_⟩
  obtain rfl := arcs_one ha one_arcs
  rw [one_order]
  refine ⟨(fun h => by cases h), fun o ho A137 c137 H136 x136 S137 _ => ⟨_, _, _, _, _, rfl, fun g140 hg140 => ?_⟩⟩
  cases ho
  have h12 := fresh_sl (H := H136) (g := g140) (ty := 3) (f := inC) (l := [1, 2]) (vs := [Value.int .i64 1, .int .i64 2]) rfl (by unfold huge; decide)
  have x141 : Ext H136 (upd g140 (Obj.cells [Value.int .i64 1, .int .i64 2].toArray 3 (0, 0)) H136) := Ext.new hg140
  generalize (upd g140 (Obj.cells [Value.int .i64 1, .int .i64 2].toArray 3 (0, 0)) H136) = H141 at h12 x141 ⊢
  have hO141 := (hO.ext x136).ext x141
  refine c12 hO141 (Nat.le_refl _) h12 (fitsQ_of one_valid one_fits fun H143 x143 => ⟨_, _, rfl, fun g146 hg146 => ?_⟩)
  have h1 := fresh_sl (H := H143) (g := g146) (ty := 3) (f := inC) (l := [1]) (vs := [Value.int .i64 1]) rfl (by unfold huge; decide)
  have x147 : Ext H143 (upd g146 (Obj.cells [Value.int .i64 1].toArray 3 (0, 0)) H143) := Ext.new hg146
  generalize (upd g146 (Obj.cells [Value.int .i64 1].toArray 3 (0, 0)) H143) = H147 at h1 x147 ⊢
  have hO147 := (hO141.ext x143).ext x147
  refine c31 hO147 (Nat.le_refl _) h1 ⟨(fun h => by rw [one_valid] at h; cases h), fun _ A150 c150 H149 x149 S150 _ => ⟨_, _, _, _, rfl, c34 ⟨_, _, _, _, _, rfl, fun g159 hg159 => ?_⟩⟩⟩
  rw [one_only] at S150 ⊢
  have hB := fresh_sl (H := H149) (g := g159) (ty := 35) (f := evC) (l := badL) (vs := badL.flatMap evC) rfl (by unfold huge; decide)
  have x160 : Ext H149 (upd g159 (Obj.cells (badL.flatMap evC).toArray 35 (0, 0)) H149) := Ext.new hg159
  change HCalls _ _ _ (upd g159 (Obj.cells (badL.flatMap evC).toArray 35 (0, 0)) H149) _
  generalize (upd g159 (Obj.cells (badL.flatMap evC).toArray 35 (0, 0)) H149) = H160 at hB x160 ⊢
  have hB : SlAt evC H160 (some ⟨g159, 0, none⟩) 1 badL := hB
  refine c18 hB (Nat.le_refl _) ⟨fun _ H162 x162 => ⟨_, _, _, _, rfl, ?_⟩, (fun h => by rw [bad_valid] at h; cases h)⟩
  have y81 : Ext H81 H162 := (((((x134.trans x136).trans x141).trans x143).trans x147).trans x149).trans (x160.trans x162)
  have y149 : Ext H149 H162 := x160.trans x162
  have y136 : Ext H136 H162 := ((x141.trans x143).trans x147).trans (x149.trans y149)
  have y72 : Ext H72 H162 := (x76.trans x81).trans y81
  have y60 : Ext H60 H162 := (x64.trans x68).trans (x72.trans y72)
  have y0 : Ext H H162 := x58.trans (x60.trans y60)
  have T61 := S61.ext y60
  have T73 := S73.ext y72
  have T82 := S82.ext y81
  have T137 := S137.ext y136
  have T150 := S150.ext y149
  refine jn_intro (fun J => J false) ?_ fun J hJ => cndF rfl (cndF rfl hJ)
  refine cndF rfl (jn_intro (fun J => ∀ H', Ext H H' → J true H') (fun H' hx => hq H' hx) fun J hJ => ⟨by omega, by decide, ?_⟩)
  refine at_cells T61.cells (by simp [stC]) fun b167 o167 _ k167 => ⟨sRw, k167 0 _ rfl, cndT (beq_iff_eq.2 rfl) (cndT rfl (cndT rfl (cndT rfl (cndT rfl (cndT rfl ⟨by omega, by decide, ?_⟩)))))⟩
  refine rd_ar (i := 0) T73 rfl fun q o _ k1 k2 k3 k4 => ⟨1, by simpa using k1, 2, by simpa using k2, 1, by simpa using k3, 1, by simpa using k4, cndT rfl ⟨by omega, by decide, ?_⟩⟩
  refine rd_ar (i := 1) T73 rfl fun q o _ k1 k2 k3 k4 => ⟨2, by simpa using k1, 1, by simpa using k2, 3, by simpa using k3, 1, by simpa using k4, cndT rfl (cndT rfl (cndT rfl (cndT rfl fun g179 hg179 => ?_)))⟩
  have hw := fresh_sl (H := H162) (g := g179) (ty := 3) (f := inC) (l := [1, 2]) (vs := [Value.int .i64 1, .int .i64 2]) rfl (by unfold huge; decide)
  have x180 : Ext H162 (upd g179 (Obj.cells [Value.int .i64 1, .int .i64 2].toArray 3 (0, 0)) H162) := Ext.new hg179
  generalize (upd g179 (Obj.cells [Value.int .i64 1, .int .i64 2].toArray 3 (0, 0)) H162) = H180 at hw x180 ⊢
  refine c25 (T82.ext x180) hw ⟨_, rfl, cndT rfl (cndT rfl (cndT rfl fun g184 hg184 => ?_))⟩
  have hw2 := fresh_sl (H := H180) (g := g184) (ty := 3) (f := inC) (l := [2, 1]) (vs := [Value.int .i64 2, .int .i64 1]) rfl (by unfold huge; decide)
  have x185 : Ext H180 (upd g184 (Obj.cells [Value.int .i64 2, .int .i64 1].toArray 3 (0, 0)) H180) := Ext.new hg184
  generalize (upd g184 (Obj.cells [Value.int .i64 2, .int .i64 1].toArray 3 (0, 0)) H180) = H185 at hw2 x185 ⊢
  refine c25 ((T137.ext x180).ext x185) hw2 ⟨_, rfl, cndT rfl (cndT rfl (cndT rfl (cndT rfl ⟨by omega, by decide, ?_⟩)))⟩
  refine rd_ev (i := 1) ((T150.ext x180).ext x185) rfl fun q o _ k1 k2 k3 k4 k5 => ⟨0, by simpa using k4, cndT rfl (cndT rfl (cndT rfl ?_))⟩
  refine c14 ((((((hL76.ext x81).ext y81).ext x180).ext x185))) fun H192 x192 => ⟨true, by rw [lost_valid], hJ H192 ((((y0.trans x180).trans x185).trans x192))⟩
end
end Go.Proofs.YtibhpoikhkokiaaGreat.Hw

/- Histories: what fits has only faults of the third kind (plain law). -/
set_option linter.unusedVariables false
set_option linter.unusedSimpArgs false
namespace Go.Proofs.YtibhpoikhkokiaaGreat.Hw
open Go Go.Proofs
section
variable {l : List Ev} {t : Int}
theorem comAt_of {c : Nat} (h : commitI l t = some c) : comAt l t = (c : Int) := by unfold comAt natOr; rw [h]; rfl
theorem com_some (h : comB l t = true) : ∃ c, commitI l t = some c := Option.isSome_iff_exists.1 h
/-- What a read saw: its own, or what was last there at a place before it. -/
def SawB (l : List Ev) (i : Nat) (x : Ev) : Prop := ∃ p : Int, p ≤ i ∧ x.frm = (if wroteM (l.take i) x.txn x.item then x.txn else lastM l x.item p)
theorem okEv_read {st p u : Int} {i : Nat} {x : Ev} (h : okEv l x.txn st p u i x = true) (ho : x.op = 2) (hw : wantedB st x = true) : x.frm = (if wroteM (l.take i) x.txn x.item then x.txn else lastM l x.item p) := by
  unfold okEv at h
  rw [if_neg (by simp), if_pos (by simp [ho]), hw, Bool.true_and, Bool.not_eq_true'] at h
  simpa using h
theorem fits_at {st p u : Int} {i : Nat} {x : Ev} (h : fitsB l t st p u = true) (hx : l[i]? = some x) : okEv l t st p u i x = true := by
  unfold fitsB at h
  rw [List.all_eq_true] at h
  have := h i (List.mem_range.2 (List.getElem?_eq_some_iff.1 hx).1)
  unfold okAt at this
  rw [hx] at this
  exact this
theorem found_ex {st lo hi u : Int} (h : foundB l t st lo hi u = true) : ∃ p, lo ≤ p ∧ p ≤ hi ∧ fitsB l t st p u = true := by
  unfold foundB at h
  obtain ⟨k, hk, h2⟩ := List.any_eq_true.1 h
  have := List.mem_range.1 hk
  exact ⟨lo + k, by omega, by omega, h2⟩
theorem serial_saw {i : Nat} {x : Ev} (hs : serialB l x.txn = true) (hx : l[i]? = some x) (ho : x.op = 2) : SawB l i x := by
  obtain ⟨p, h1, h2, h3⟩ := found_ex hs
  refine ⟨p, ?_, okEv_read (fits_at h3 hx) ho (by unfold wantedB; rfl)⟩
  have : highM l x.txn ≤ i := by
    unfold highM
    have hop : opOf x.txn x = true := by unfold opOf; simp [ho]
    cases hf : l.findIdx? (opOf x.txn) with
    | none =>
      rw [List.findIdx?_eq_none_iff] at hf
      have := hf x (List.mem_of_getElem? hx)
      rw [hop] at this; cases this
    | some j =>
      rw [List.findIdx?_eq_some_iff_getElem] at hf
      obtain ⟨g1, _, g3⟩ := hf
      show j ≤ i
      apply Nat.le_of_not_lt
      intro hlt
      have := g3 i hlt
      rw [(List.getElem?_eq_some_iff.1 hx).2, hop] at this
      exact this rfl
  omega
/-- What 'each' has found so far. -/
theorem each_inv {k n : Nat} : (eachTo l t k n).2.2 = true → ((eachTo l t k n).2.1 ≠ 0 → ∃ (i0 : Nat) (lo : Int), i0 < k + 1 + n ∧ foundB l t (eachTo l t k n).2.1 lo i0 (-1) = true) ∧
    ∀ (i : Nat) (x : Ev), k < i → i < k + 1 + n → l[i]? = some x → x.txn = t → x.stmt ≠ 0 → ∃ (i0 : Nat) (lo : Int), i0 ≤ i ∧ foundB l t x.stmt lo i0 (-1) = true := by
  induction n with
  | zero => intro _; exact ⟨fun h => absurd rfl h, fun i x h1 h2 => by omega⟩
  | succ n ih =>
    intro h
    have hpre : (eachTo l t k n).2.2 = true := by
      cases hh : (eachTo l t k n).2.2 with
      | true => rfl
      | false => rw [eachTo_false hh (Nat.le_succ n)] at h; cases h
    obtain ⟨h1, h2⟩ := ih hpre
    rw [eachTo_succ] at h ⊢
    unfold eachS at h ⊢
    cases hx : l[k + 1 + n]? with
    | none =>
      rw [hx] at h
      refine ⟨fun hne => ?_, fun i x hki hi hxi htx hs => ?_⟩
      · obtain ⟨i0, lo, a, b⟩ := h1 hne
        exact ⟨i0, lo, by omega, b⟩
      · have : i ≠ k + 1 + n := fun e => by rw [e, hx] at hxi; cases hxi
        exact h2 i x hki (by omega) hxi htx hs
    | some y =>
      rw [hx] at h
      simp only at h ⊢
      cases hy : y.txn == t with
      | false =>
        rw [hy] at h
        simp only [Bool.false_eq_true, if_false] at h ⊢
        refine ⟨fun hne => ?_, fun i x hki hi hxi htx hs => ?_⟩
        · obtain ⟨i0, lo, a, b⟩ := h1 hne
          exact ⟨i0, lo, by omega, b⟩
        · have : i ≠ k + 1 + n := fun e => by rw [e, hx] at hxi; cases hxi; rw [htx] at hy; simp at hy
          exact h2 i x hki (by omega) hxi htx hs
      | true =>
        rw [hy] at h
        simp only [if_true] at h ⊢
        rw [Bool.and_eq_true, Bool.or_eq_true] at h
        have key : y.stmt ≠ 0 → ∃ (i0 : Nat) (lo : Int), i0 ≤ k + 1 + n ∧ foundB l t y.stmt lo i0 (-1) = true := fun hne => by
          rcases h.2 with he | hf
          · have he : y.stmt = (eachTo l t k n).2.1 := by simpa using he
            rw [he] at hne ⊢
            obtain ⟨i0, lo, a, b⟩ := h1 hne
            exact ⟨i0, lo, by omega, b⟩
          · exact ⟨k + 1 + n, _, Nat.le_refl _, hf⟩
        refine ⟨fun hne => ?_, fun i x hki hi hxi htx hs => ?_⟩
        · obtain ⟨i0, lo, a, b⟩ := key hne
          exact ⟨i0, lo, by omega, b⟩
        · by_cases e : i = k + 1 + n
          · rw [e, hx] at hxi; cases hxi
            obtain ⟨i0, lo, a, b⟩ := key hs
            exact ⟨i0, lo, by omega, b⟩
          · exact h2 i x hki (by omega) hxi htx hs
theorem read_parts (hok : OkTo l l.length) {i : Nat} {x : Ev} (hx : l[i]? = some x) (ho : x.op = 2) : x.stmt ≠ 0 := by
  have h := hok i x (List.getElem?_eq_some_iff.1 hx).1 hx
  unfold evOk at h
  rw [show (x.op == 1) = false by simp [ho], show (x.op == 2) = true by simp [ho]] at h
  simp only [Bool.false_eq_true, if_false, if_true, Bool.and_eq_true, decide_eq_true_eq] at h
  have := h.2.2.2.2.1
  omega
theorem each_saw (hok : OkTo l l.length) {i : Nat} {x : Ev} (hs : eachB l x.txn = true) (hx : l[i]? = some x) (ho : x.op = 2) (hc : comB l x.txn = true) : SawB l i x := by
  obtain ⟨c, hc⟩ := com_some hc
  obtain ⟨b, hb, hbi⟩ := hok.begin_lt hx (by rw [ho]; decide)
  have hci := hok.commit_gt hx hc
  have hne : i ≠ c := fun e => by
    obtain ⟨y, hy, hp⟩ := commit_get hc
    rw [← e, hx] at hy; cases hy
    have := (isC_iff.1 hp).1
    omega
  unfold eachB at hs
  rw [hb, hc] at hs
  obtain ⟨i0, lo, h1, h2⟩ := (each_inv hs).2 i x hbi (by show i < b + 1 + (c - (b + 1)); omega) hx rfl (read_parts hok hx ho)
  obtain ⟨p, _, h4, h5⟩ := found_ex h2
  exact ⟨p, by omega, okEv_read (fits_at h5 hx) ho (by unfold wantedB; simp)⟩
/-- A version that was last there is of one that had committed. -/
theorem lastM_com {item p : Int} : ∀ {vs : List Int} {s : Int}, (s = 0 ∨ s ∈ versM l item ∧ comAt l s < p) → (∀ v ∈ vs, v ∈ versM l item) → (vs.foldl (lastS l p) s = 0 ∨ vs.foldl (lastS l p) s ∈ versM l item ∧ comAt l (vs.foldl (lastS l p) s) < p)
  | [], s, h, _ => h
  | v :: r, s, h, hm => by
    rw [List.foldl_cons]
    refine lastM_com (vs := r) ?_ fun u hu => hm u (List.mem_cons_of_mem _ hu)
    unfold lastS
    by_cases e : comAt l v < p
    · rw [if_pos (decide_eq_true e)]; exact .inr ⟨hm v List.mem_cons_self, e⟩
    · rw [if_neg (by simpa using e)]; exact h
theorem vers_com {item v : Int} (h : v ∈ versM l item) : comB l v = true := by
  unfold versM at h
  obtain ⟨j, hj, hv⟩ := List.mem_filterMap.1 h
  cases hx : l[j]? with
  | none => rw [hx] at hv; cases hv
  | some x =>
    rw [hx] at hv
    simp only at hv
    split at hv
    · rename_i hc
      cases hv
      rw [Bool.and_eq_true] at hc
      exact com_ex.2 ⟨j, x, hx, isC_iff.2 ⟨by simpa using hc.1, rfl⟩⟩
    · cases hv
theorem saw_com {i : Nat} {x : Ev} (h : SawB l i x) : x.frm = x.txn ∨ x.frm = 0 ∨ comB l x.frm = true ∧ comAt l x.frm < i := by
  obtain ⟨p, hp, h⟩ := h
  split at h
  · exact .inl h
  · have := lastM_com (l := l) (item := x.item) (p := p) (vs := versM l x.item) (s := 0) (.inl rfl) fun v hv => hv
    change lastM l x.item p = 0 ∨ lastM l x.item p ∈ versM l x.item ∧ comAt l (lastM l x.item p) < p at this
    rw [← h] at this
    rcases this with h1 | ⟨h1, h2⟩
    · exact .inr (.inl h1)
    · exact .inr (.inr ⟨vers_com h1, by omega⟩)
theorem last_com (hok : OkTo l l.length) {t k : Int} {c : Nat} (hc : commitI l t = some c) : natOr (lastW l t k) ≤ c := by
  cases hw : lastW l t k with
  | none => exact Nat.zero_le _
  | some w =>
    obtain ⟨x, hx, hp, _⟩ := lastI_some hw
    have h := isW_iff.1 hp
    exact hok.commit_gt hx (by rw [h.2.1]; exact hc)
/-- The places of commits rise in the versions of an item. -/
theorem vers_rise (hok : OkTo l l.length) {k : Int} : ∀ n, n ≤ l.length → (versM (l.take n) k).Pairwise (fun a b => comAt l a < comAt l b) ∧ ∀ v ∈ versM (l.take n) k, comAt l v < n := by
  intro n
  induction n with
  | zero => intro _; rw [List.take_zero, vers_nil]; exact ⟨List.Pairwise.nil, fun v hv => by cases hv⟩
  | succ n ih =>
    intro hn
    obtain ⟨h1, h2⟩ := ih (by omega)
    obtain ⟨x, hx⟩ := get_of (l := l) (i := n) (by omega)
    rw [take_snoc hx, vers_snoc]
    by_cases hc : (x.op == 4 && wroteM (l.take n) x.txn k) = true
    · rw [if_pos hc]
      rw [Bool.and_eq_true] at hc
      have ho : x.op = 4 := by simpa using hc.1
      have hcx : comAt l x.txn = n := comAt_of (hok.commit_at hx (isC_iff.2 ⟨ho, rfl⟩))
      refine ⟨?_, fun v hv => ?_⟩
      · rw [List.pairwise_append]
        refine ⟨h1, List.pairwise_singleton _ _, fun a ha b hb => ?_⟩
        rw [List.mem_singleton.1 hb, hcx]; exact h2 a ha
      · rcases List.mem_append.1 hv with hv | hv
        · have := h2 v hv; omega
        · rw [List.mem_singleton.1 hv, hcx]; omega
    · rw [if_neg hc, List.append_nil]
      exact ⟨h1, fun v hv => by have := h2 v hv; omega⟩
theorem fit_saw (hok : OkTo l l.length) {T : List Int} (hf : fitsM l T = true) {i : Nat} {x : Ev} (hx : l[i]? = some x) (ho : x.op = 2) (hc : comB l x.txn = true) : SawB l i x := by
  have h := fitsM_iff.1 hf _ hc
  unfold okT at h
  split at h
  · exact serial_saw h hx ho
  · exact each_saw hok h hx ho hc
theorem fit_ab (hok : OkTo l l.length) {T : List Int} (hf : fitsM l T = true) : abTo l l.length = false := by
  cases h : abTo l l.length with
  | false => rfl
  | true =>
    obtain ⟨i, x, _, hx, hp⟩ := any_take.1 h
    unfold badRead at hp
    simp only [Bool.and_eq_true, beq_iff_eq, bne_iff_ne, ne_eq, Bool.not_eq_true'] at hp
    obtain ⟨⟨h1, h2, h3, h4⟩, h5⟩ := hp
    rcases saw_com (fit_saw hok hf hx h1 h4) with h | h | ⟨h, _⟩
    · exact absurd h h3
    · exact absurd h h2
    · rw [h] at h5; cases h5
theorem fit_bt (hok : OkTo l l.length) {T : List Int} (hf : fitsM l T = true) : btTo l l.length = false := by
  cases h : btTo l l.length with
  | false => rfl
  | true =>
    unfold btTo at h
    obtain ⟨i, _, hp⟩ := List.any_eq_true.1 h
    unfold btAt at hp
    cases hx : l[i]? with
    | none => rw [hx] at hp; cases hp
    | some x =>
      rw [hx] at hp
      unfold badRead at hp
      simp only [Bool.and_eq_true, beq_iff_eq, bne_iff_ne, ne_eq, decide_eq_true_eq] at hp
      obtain ⟨⟨h1, h2, h3, h4⟩, h5⟩ := hp
      rcases saw_com (fit_saw hok hf hx h1 h4) with h | h | ⟨h, h6⟩
      · exact absurd h h3
      · exact absurd h h2
      · obtain ⟨c, hc⟩ := com_some h
        have := last_com hok (k := x.item) hc
        rw [comAt_of hc] at h6
        omega
/-- Arcs of the first two kinds lead on in the order of commits. -/
theorem fit_arc (hok : OkTo l l.length) {T : List Int} (hf : fitsM l T = true) {rs : List Arc} (ha : ArcsOf l rs) {x : Arc} (hx : x ∈ rs) (hk : x.kind ≠ 3) : comAt l x.a < comAt l x.b := by
  obtain ⟨hne, h1, h2, ⟨_, j, hj1, hj2⟩ | ⟨_, i, e, he, ho, hlt, ea, eb, _⟩ | ⟨h3, _⟩⟩ := arc_iff.1 ((ha.2 x).1 hx)
  · have hr := (vers_rise hok (k := x.item) l.length (Nat.le_refl _)).1
    rw [List.take_length] at hr
    obtain ⟨g1, g2⟩ := List.getElem?_eq_some_iff.1 hj1
    obtain ⟨g3, g4⟩ := List.getElem?_eq_some_iff.1 hj2
    have := List.pairwise_iff_getElem.1 hr j (j + 1) g1 g3 (by omega)
    rw [g2, g4] at this
    exact this
  · rw [eb] at h2
    rcases saw_com (fit_saw hok hf he ho h2) with h | h | ⟨h, h6⟩
    · rw [ea, eb] at hne; exact absurd h hne
    · rw [ea, h] at h1
      have := com_in hok h1; omega
    · obtain ⟨c, hc⟩ := com_some h2
      have h7 := hok.commit_gt he hc
      rw [ea, eb, comAt_of hc]
      omega
  · exact absurd h3 hk
theorem fit_reach (hok : OkTo l l.length) {T : List Int} (hf : fitsM l T = true) {rs : List Arc} (ha : ArcsOf l rs) {want : Int → Bool} (hw : want 3 = false) {s y : Int} (h : ReachR rs want s y) : comAt l s ≤ comAt l y := by
  induction h with
  | refl => exact Int.le_refl _
  | @step x _ hx hk ih =>
    have := fit_arc hok hf ha hx (fun e => by rw [e, hw] at hk; cases hk)
    omega
theorem fit_circ (hok : OkTo l l.length) {T : List Int} (hf : fitsM l T = true) {rs : List Arc} (ha : ArcsOf l rs) {kind : Int} {want : Int → Bool} (hw : want 3 = false) (hk : kind ≠ 3) : circB rs kind want = false := by
  rw [← Bool.not_eq_true, circB_iff]
  rintro ⟨x, hx, rfl, hr⟩
  have h1 := fit_arc hok hf ha hx hk
  have h2 := fit_reach hok hf ha hw hr
  omega
/-- What fits has faults of the third kind alone. -/
theorem fit_faults (hok : OkTo l l.length) {T : List Int} (hf : fitsM l T = true) {rs : List Arc} (ha : ArcsOf l rs) : ∀ s ∈ faultsF l rs, s = sRw ∨ s = sRs := by
  unfold faultsF
  rw [fit_ab hok hf, fit_bt hok hf, fit_circ hok hf ha (kind := 1) (want := wW) rfl (by decide), fit_circ hok hf ha (kind := 2) (want := wP) rfl (by decide)]
  intro s hs
  unfold noteL at hs
  simp only [Bool.false_eq_true, if_false, List.nil_append, List.mem_append] at hs
  rcases hs with hs | hs <;> split at hs
  · exact .inl (List.mem_singleton.1 hs)
  · cases hs
  · exact .inr (List.mem_singleton.1 hs)
  · cases hs
end
end Go.Proofs.YtibhpoikhkokiaaGreat.Hw

/- From a function's contract to its row: what came in reads as it did. -/
set_option linter.unusedVariables false
set_option linter.unusedSimpArgs false
namespace Go.Proofs.YtibhpoikhkokiaaGreat.Hw
open Go
section
variable {H : Type} {enc : TypeId × Value → H} {P : Program} {w w' : World} {base : Nat} {sp : Nat → Bool}
theorem mapM_len {α β : Type} {f : α → Option β} : ∀ {l : List α} {r : List β}, l.mapM f = some r → r.length = l.length
  | [], r, h => by simp at h; subst h; rfl
  | x :: l, r, h => by
    rw [List.mapM_cons] at h
    simp only [bind, Option.bind_eq_some_iff, pure, Option.some.injEq] at h
    obtain ⟨y, _, r', h2, rfl⟩ := h
    simp [mapM_len h2]
/-- A type's parts lie in the table, and a slice's elements take a cell. -/
def partsB (P : Program) (d : Option TypeDesc) : Bool := match d with
  | some (.slice e) => decide (0 < P.cellsOf e) && decide (e < P.types.size)
  | some (.pointer e) => decide (e < P.types.size)
  | some (.struct fs) => fs.toList.all fun f => decide (f.type < P.types.size)
  | some (.array _ e) => decide (e < P.types.size)
  | some (.map _ e) => decide (e < P.types.size)
  | _ => true
/-- So for all types of the table. -/
def cellsB (P : Program) : Bool := (List.range P.types.size).all fun t => partsB P (P.underlying t)
theorem cellsB_ok (h : cellsB P = true) {t : TypeId} (ht : t < P.types.size) : partsB P (P.underlying t) = true := List.all_eq_true.1 h t (List.mem_range.2 ht)
/-- The reading of all cells of a slice is one that is told where to look for more. -/
theorem trodStep_spare {r r' : TypeId → List Value → Option (DataW H × List MemPlace)} {t : TypeId} (hz : partsB P (P.underlying t) = true)
    (hr : ∀ t cs x, t < P.types.size → r t cs = some x → (∀ p ∈ x.2, sp p.block = true) → r' t cs = some x) {cs : List Value} {x : DataW H × List MemPlace}
    (h : DataW.trodStep enc P w base (fun _ => true) true r t cs = some x) (hs : ∀ p ∈ x.2, sp p.block = true) : DataW.trodStep enc P w base sp true r' t cs = some x := by
  unfold DataW.trodStep at h ⊢
  split at h
  case h_6 e a hu =>
    rw [hu] at hz
    have he : e < P.types.size := of_decide_eq_true hz
    simp only [Option.map_eq_some_iff, Option.bind_eq_some_iff] at h ⊢
    obtain ⟨y, ⟨cs', hc, hy⟩, rfl⟩ := h
    exact ⟨y, ⟨cs', hc, hr _ _ _ he hy (fun p hp => hs p (by simp [hp]))⟩, rfl⟩
  case h_8 e a len cap hu =>
    rw [hu] at hz
    simp only [partsB, Bool.and_eq_true, decide_eq_true_eq] at hz
    obtain ⟨hz0, he⟩ := hz
    simp only at h ⊢
    split at h
    · rename_i hc
      rw [if_pos hc]
      simp only [if_true, Option.map_eq_some_iff, Option.bind_eq_some_iff] at h ⊢
      obtain ⟨elems, h1, rest, h2, rfl⟩ := h
      have g : ∀ i y, ((w.cells? base (a.add (i * P.cellsOf e)) (P.cellsOf e)).bind (r e)) = some y → (y ∈ elems ∨ y ∈ rest) → ((w.cells? base (a.add (i * P.cellsOf e)) (P.cellsOf e)).bind (r' e)) = some y := fun i y hy hm => by
        simp only [Option.bind_eq_some_iff] at hy ⊢
        obtain ⟨cs', hc', hy⟩ := hy
        exact ⟨cs', hc', hr _ _ _ he hy (fun p hp => hs p (by
          simp only [List.mem_append, List.mem_flatMap]
          exact .inr ⟨y, hm, hp⟩))⟩
      refine ⟨elems, mapM_carry h1 (fun i y _ hm hy => g i y hy (.inl hm)), rest, ?_, rfl⟩
      have hl2 : rest.length = cap - len := by
        have := mapM_len h2
        simpa using this
      by_cases hspa : sp a.block = true
      · rw [if_pos hspa]
        exact mapM_carry h2 (fun j y _ hm hy => g (len + j) y hy (.inr hm))
      · rw [if_neg hspa]
        have h0 : (elems.length + rest.length) * P.cellsOf e = 0 := by
          refine Classical.byContradiction fun hne => hspa ?_
          have := hs (.cell a.block (a.off + 0)) (by
            simp only [List.mem_append]
            exact .inl (MemPlace.mem_row.2 ⟨0, by omega, rfl⟩))
          exact this
        have : rest.length = 0 := by
          rcases Nat.mul_eq_zero.1 h0 with h3 | h3 <;> omega
        rw [List.length_eq_zero_iff.1 this]
    · cases h
  all_goals first | exact h | skip
  case h_9 fs hu =>
    rw [hu] at hz
    simp only [partsB, List.all_eq_true, decide_eq_true_eq] at hz
    split at h
    · rename_i hc
      rw [if_pos hc]
      simp only [Option.map_eq_some_iff] at h ⊢
      obtain ⟨xs, h1, rfl⟩ := h
      exact ⟨xs, mapM_carry h1 (fun f y hf hm hy => hr _ _ _ (hz f hf) hy (fun p hp => hs p (by
        simp only [List.mem_flatMap]
        exact ⟨y, hm, hp⟩))), rfl⟩
    · cases h
  case h_10 n e hu =>
    rw [hu] at hz
    have he : e < P.types.size := of_decide_eq_true hz
    split at h
    · rename_i hc
      rw [if_pos hc]
      simp only [Option.map_eq_some_iff] at h ⊢
      obtain ⟨xs, h1, rfl⟩ := h
      exact ⟨xs, mapM_carry h1 (fun f y _ hm hy => hr _ _ _ he hy (fun p hp => hs p (by
        simp only [List.mem_flatMap]
        exact ⟨y, hm, hp⟩))), rfl⟩
    · cases h
  case h_14 k e b hu =>
    rw [hu] at hz
    have he : e < P.types.size := of_decide_eq_true hz
    split at h
    · rename_i es clock hm
      simp only
      split at h
      · rename_i hc
        rw [if_pos hc]
        simp only [Option.bind_eq_some_iff] at h ⊢
        obtain ⟨entries, h1, h2⟩ := h
        split at h2
        · rename_i hri
          cases h2
          refine ⟨entries, mapM_carry h1 (fun y z _ hmem hy => ?_), by rw [if_pos hri]⟩
          simp only [Option.bind_eq_some_iff] at hy ⊢
          obtain ⟨key, hk, hy⟩ := hy
          refine ⟨key, hk, ?_⟩
          split at hy
          · rename_i hf
            rw [if_pos hf]
            simp only [Option.map_eq_some_iff] at hy ⊢
            obtain ⟨u, hu2, rfl⟩ := hy
            exact ⟨u, hr _ _ _ he hu2 (fun p hp => hs p (by
              simp only [List.mem_cons, List.mem_flatMap]
              exact .inr ⟨_, hmem, hp⟩)), rfl⟩
          · cases hy
        · cases h2
      · cases h
    · cases h
theorem trod_spare (hz : cellsB P = true) : ∀ (n : Nat) (t : TypeId) (cs : List Value) (x : DataW H × List MemPlace), t < P.types.size →
    DataW.trod enc P w base (fun _ => true) true n t cs = some x → (∀ p ∈ x.2, sp p.block = true) → DataW.trod enc P w base sp true n t cs = some x := by
  intro n
  induction n with
  | zero => intro t cs x _ h; simp [DataW.trod] at h
  | succ n ih =>
    intro t cs x ht h hs
    rw [DataW.trod_step] at h ⊢
    exact trodStep_spare (cellsB_ok hz ht) ih h hs
/-- What came in reads as it did, in a world in which all that was there stays. -/
theorem trodAll_again (hz : cellsB P = true) (hh : ∀ (b : Nat) o, w.heap[b]? = some o → w'.heap[b]? = some o) : ∀ {ts : List TypeId} {vs : List Value} {ds : List (DataW H)} {ps : List MemPlace}, (∀ t ∈ ts, t < P.types.size) →
    DataW.TrodAll enc P w base (fun _ => true) true ts vs ds ps → (∀ p ∈ ps, p.block < w.heap.size) → (∀ p ∈ ps, sp p.block = true) → DataW.TrodAll enc P w' base sp true ts vs ds ps
  | [], vs, ds, ps, _, h, _, _ => by
    obtain ⟨rfl, rfl, rfl⟩ := ChangeShapes.trodAll_nil h
    rfl
  | t :: ts, vs, ds, ps, hts, h, hl, hs => by
    obtain ⟨v, vs', d, ds', a, b, rfl, rfl, rfl, ⟨n, h1⟩, h2⟩ := ChangeShapes.trodAll_cons h
    have hold : ∀ p : MemPlace, p.block < w.heap.size → w'.heap[p.block]? = w.heap[p.block]? := fun p hp => by
      rw [Array.getElem?_eq_getElem hp]
      exact hh _ _ (Array.getElem?_eq_getElem hp)
    have same : ∀ p ∈ a, w.sameAt w' p := fun p hp => by
      have := hold p (hl p (List.mem_append_left _ hp))
      cases p with
      | cell b off => unfold World.sameAt World.cell?; simp only [MemPlace.block] at this; simp only [this]
      | map b => exact this
    exact ⟨a, b, ⟨n, DataW.trod_carry n t _ _ (trod_spare hz n t _ _ (hts t List.mem_cons_self) h1 (fun p hp => hs p (List.mem_append_left _ hp))) same⟩, trodAll_again hz hh (fun t ht => hts t (List.mem_cons_of_mem _ ht)) h2 (fun p hp => hl p (List.mem_append_right _ hp)) (fun p hp => hs p (List.mem_append_right _ hp)), rfl⟩
/-- The row's word for a function that only looks, and makes new memory. -/
theorem post_look {f : Func} {s : ChangeSpec} {apart fresh handsOn again : Bool} {W W' : World} {args : Array Value} {v : Value} {ds gs : List (DataW H)} {before : List MemPlace}
    (hz : cellsB P = true) (hps : ∀ t ∈ f.params.toList, t < P.types.size) (hW : DataW.Whole enc P f.params.toList s.vars apart W args.toList ds gs before) (hsv : s.vars = []) (hargs : (s.fn H (ds ++ gs)).args = ds) (hv2 : (s.fn H (ds ++ gs)).vars = [])
    (hres : ∀ (b : Nat) (sp : Nat → Bool) (hd : Bool), DataW.TrodAll enc P W' b sp hd f.resultTypes.toList (v.resultList f.resultTypes.size) (s.fn H (ds ++ gs)).results [])
    (hh : ∀ (b : Nat) o, W.heap[b]? = some o → W'.heap[b]? = some o) (hos : W'.os = W.os) (hout : W'.output = W.output)
    (hok : ∀ (j : Nat) (t : TypeId) (r : Value), f.resultTypes[j]? = some t → (v.resultList f.resultTypes.size)[j]? = some r → Value.okWide P W' .any 0 t r) :
    s.post enc P f apart fresh handsOn again W args v W' := by
  have hlt : ∀ p ∈ before, p.block < W.heap.size := fun p hp => hW.lt p hp
  have hold : ∀ p ∈ before, (fun b => decide (b < W.heap.size)) p.block = true := fun p hp => by simpa using hlt p hp
  have hW' := hW
  obtain ⟨pa, pv, hA, hV, hpe, hnf, hnd⟩ := hW'
  rw [hsv] at hV
  obtain ⟨hgs, hpv⟩ := ChangeShapes.trodVars_none hV
  subst hpv
  rw [List.append_nil] at hpe
  subst hpe
  have ag : ∀ sp : Nat → Bool, (∀ p ∈ before, sp p.block = true) → DataW.TrodAll enc P W' 0 sp true f.params.toList args.toList (s.fn H (ds ++ gs)).args before := fun sp hsp => by
    rw [hargs]
    exact trodAll_again hz hh hps hA hlt hsp
  have av : ∀ sp : Nat → Bool, DataW.TrodVars enc P W' sp s.vars (s.fn H (ds ++ gs)).vars [] := fun sp => by
    rw [hsv, hv2]
    exact rfl
  have same : ∀ b, b < W.heap.size → W'.heap[b]? = W.heap[b]? := fun b hb => by
    rw [Array.getElem?_eq_getElem hb]; exact hh _ _ (Array.getElem?_eq_getElem hb)
  refine ⟨ds, gs, before, [], before, [], hW, hres _ _ _, ag _ hold, av _, ⟨hos, hout, fun i hi => ?_⟩, fun _ => ?_⟩
  · rw [same i hi]
    cases hx : W.heap[i]? with
    | none => rfl
    | some o =>
      cases o with
      | cells c t fr => exact ⟨rfl, rfl, rfl, fun _ _ => rfl⟩
      | map es clock => exact .inr ⟨rfl, rfl⟩
      | _ => rfl
  · refine ⟨hok, _, _, ([] ++ before) ++ [], ⟨[] ++ before, [], ChangeShapes.trodAll_append (ag _ (fun _ _ => rfl)) (hres _ _ _), av _, rfl, ?_, ?_⟩, ?_⟩
    · intro b off hp
      have hp' : MemPlace.cell b off ∈ before := by simpa using hp
      have h1 := hnf b off hp'
      unfold World.frozen? at h1 ⊢
      rw [same b (hlt _ hp')]
      exact h1
    · intro ha
      have := hnd ha
      simpa using this
    · intro p hp _
      simpa using hp
/-- The whole heap of a world. -/
def hpOf (w : World) : Hp := fun b => w.heap[b]?
theorem cl_hp {b o : Nat} {v : Value} (h : w.cell? ⟨b, o, none⟩ = some v) : cl (hpOf w) b o = some v := by
  unfold World.cell? at h
  unfold cl hpOf
  split at h
  · rename_i c _ _ hb
    simp only at hb
    rw [hb]
    simpa using h
  · cases h
/-- A datum of which no part is too large. -/
def Sz (P : Program) (t : TypeId) (d : DataW H) : Prop := ∀ n ∈ d.weights P t, n ≤ reachBytes
theorem mem_all {e : TypeId} {d : DataW H} {n : Nat} : ∀ {l : List (DataW H)}, d ∈ l → n ∈ d.weights P e → n ∈ DataW.weightsAll P e l
  | x :: r, h, hn => by
    simp only [DataW.weightsAll, List.mem_append]
    rcases List.mem_cons.1 h with h | h
    · subst h; exact .inl hn
    · exact .inr (mem_all h hn)
theorem Sz.two {t : TypeId} {f0 f1 : Field} {d0 d1 : DataW H} (ht : P.underlying t = some (.struct #[f0, f1])) (h : Sz P t (.agg [d0, d1])) : Sz P f0.type d0 ∧ Sz P f1.type d1 := by
  unfold Sz at h
  simp only [DataW.weights, ht, DataW.weightsEach, List.map_cons, List.map_nil, List.append_nil, List.mem_append] at h
  exact ⟨fun n hn => h n (.inl hn), fun n hn => h n (.inr hn)⟩
theorem Sz.three {t : TypeId} {f0 f1 f2 : Field} {d0 d1 d2 : DataW H} (ht : P.underlying t = some (.struct #[f0, f1, f2])) (h : Sz P t (.agg [d0, d1, d2])) : Sz P f0.type d0 ∧ Sz P f1.type d1 ∧ Sz P f2.type d2 := by
  unfold Sz at h
  simp only [DataW.weights, ht, DataW.weightsEach, List.map_cons, List.map_nil, List.append_nil, List.mem_append] at h
  exact ⟨fun n hn => h n (.inl hn), fun n hn => h n (.inr (.inl hn)), fun n hn => h n (.inr (.inr hn))⟩
/-- A slice that came in: its cells, element by element. -/
theorem open_cells {spare : Nat → Bool} {held : Bool} {t e : TypeId} {fuel : Nat} {cs : List Value} {x : DataW H × List MemPlace} (ht : P.underlying t = some (.slice e)) (hC : 0 < P.cellsOf e) (hB : 0 < P.bytesOf e) (hsz : Sz P t x.1) (h : DataW.trod enc P w base spare held fuel t cs = some x) :
    ∃ (A : Option Addr) (n c : Nat) (f : Nat → List Value), cs = [.slice A n c] ∧ n ≤ reachBytes ∧ cellsAt (hpOf w) A ((List.range n).flatMap f) ∧ ∀ i, i < n → (f i).length = P.cellsOf e ∧ ∃ m y, Sz P e y.1 ∧ DataW.trod enc P w base spare held m e (f i) = some y := by
  rcases Go.Deep.open_slice ht h with ⟨rfl, _⟩ | ⟨a, len, cap, m, n, D, Pl, rfl, hb, hl, hm, hmm, hx, hi⟩
  · exact ⟨none, 0, 0, fun _ => [], rfl, by omega, .inl rfl, fun i hi => by omega⟩
  have hlm : len ≤ m := by rw [hmm]; split <;> omega
  have hsz' : (∀ k, k = (len + (m - len)) * P.bytesOf e → k ≤ reachBytes) ∧ ∀ i, i < len → Sz P e (D i) := by
    rw [hx] at hsz
    unfold Sz at hsz
    simp only [DataW.weights, ht, List.length_map, List.length_range, List.mem_cons, List.mem_append] at hsz
    exact ⟨fun k hk => hsz k (.inl hk), fun i hi k hk => hsz k (.inr (.inl (mem_all (List.mem_map_of_mem (f := D) (List.mem_range.2 hi)) hk)))⟩
  have hlr : len ≤ reachBytes := by
    have h1 := hsz'.1 _ rfl
    have h2 : len * 1 ≤ (len + (m - len)) * P.bytesOf e := Nat.mul_le_mul (by omega) hB
    omega
  refine ⟨some a, len, cap, fun i => (w.cells? base (a.add (i * P.cellsOf e)) (P.cellsOf e)).getD [], rfl, hlr, ?_, fun i him => ?_⟩
  rotate_left
  · obtain ⟨cs', hc, ht'⟩ := hi i (by omega)
    refine ⟨?_, n, _, hsz'.2 i him, by simp only [hc, Option.getD_some]; exact ht'⟩
    simp only [hc, Option.getD_some]
    exact (World.cells?_some hc).2.1
  by_cases h0 : len = 0
  · subst h0; exact .inl rfl
  · obtain ⟨cs0, hc0, _⟩ := hi 0 (by omega)
    have hs0 := (World.cells?_some hc0).2.2 0 hC
    have hsp : a.spot = none := by
      obtain ⟨_, hl0, hat⟩ := World.cells?_some hc0
      have h1 := hat 0 hC
      rw [Nat.zero_mul] at h1
      have h2 : (a.add 0).add 0 = a := rfl
      rw [h2, List.getElem?_eq_getElem (by omega)] at h1
      unfold World.cell? at h1
      split at h1
      · split at h1
        · cases h1
        · rename_i hn
          cases hsp : a.spot with
          | none => rfl
          | some q => rw [hsp] at hn; simp at hn
      · cases h1
    obtain ⟨b, o, q⟩ := a
    simp only at hsp
    subst hsp
    have hadd : ∀ o k, (⟨b, o, none⟩ : Addr).add k = ⟨b, o + k, none⟩ := fun o k => by
      unfold Addr.add
      by_cases hk : k = 0
      · subst hk; rfl
      · simp [hk]
    refine .inr ⟨b, o, rfl, fun j v hj => ?_⟩
    have hlen : ∀ i ∈ List.range len, ((w.cells? base ((⟨b, o, none⟩ : Addr).add (i * P.cellsOf e)) (P.cellsOf e)).getD []).length = P.cellsOf e := fun i him => by
      obtain ⟨cs', hc, _⟩ := hi i (by have := List.mem_range.1 him; omega)
      simp only [hc, Option.getD_some]
      exact (World.cells?_some hc).2.1
    have hjl : j < len * P.cellsOf e := by
      have := (List.getElem?_eq_some_iff.1 hj).1
      rw [flat_length hlen, List.length_range] at this
      exact this
    have hdm : j = j / P.cellsOf e * P.cellsOf e + j % P.cellsOf e := by
      have := Nat.div_add_mod j (P.cellsOf e)
      rw [Nat.mul_comm] at this
      exact this.symm
    have hil : j / P.cellsOf e < len := Nat.div_lt_of_lt_mul (by rw [Nat.mul_comm]; exact hjl)
    have hql : j % P.cellsOf e < P.cellsOf e := Nat.mod_lt _ hC
    rw [hdm, flat_get hlen (x := j / P.cellsOf e) (by simp [hil]) hql] at hj
    obtain ⟨cs', hc, _⟩ := hi (j / P.cellsOf e) (by omega)
    simp only [hc, Option.getD_some] at hj
    have h3 := (World.cells?_some hc).2.2 _ hql
    rw [hj, hadd, hadd] at h3
    have h4 := cl_hp h3
    rw [Nat.add_assoc, ← hdm] at h4
    exact h4
/-- A struct of two or three one-cell fields: the fields' own readings. -/
theorem open_two {spare : Nat → Bool} {held : Bool} {t : TypeId} {f0 f1 : Field} {fuel : Nat} {cs : List Value} {x : DataW H × List MemPlace} (ht : P.underlying t = some (.struct #[f0, f1])) (hc : P.cellsOf t = 2)
    (h0 : f0.offset = 0 ∧ P.cellsOf f0.type = 1) (h1 : f1.offset = 1 ∧ P.cellsOf f1.type = 1) (hsz : Sz P t x.1) (h : DataW.trod enc P w base spare held fuel t cs = some x) :
    ∃ v0 v1 n y0 y1, cs = [v0, v1] ∧ (Sz P f0.type y0.1 ∧ Sz P f1.type y1.1) ∧ DataW.trod enc P w base spare held n f0.type [v0] = some y0 ∧ DataW.trod enc P w base spare held n f1.type [v1] = some y1 := by
  obtain ⟨xs, n, _, rfl, hl, hx, hf⟩ := DataW.trod_struct ht h
  rw [hc] at hl
  match cs, hl with
  | [v0, v1], _ =>
    have e0 := hf 0 f0 rfl
    have e1 := hf 1 f1 rfl
    rw [h0.1, h0.2] at e0
    rw [h1.1, h1.2] at e1
    match xs, hx with
    | [y0, y1], _ => exact ⟨v0, v1, n, y0, y1, rfl, Sz.two ht hsz, e0, e1⟩
theorem open_three {spare : Nat → Bool} {held : Bool} {t : TypeId} {f0 f1 f2 : Field} {fuel : Nat} {cs : List Value} {x : DataW H × List MemPlace} (ht : P.underlying t = some (.struct #[f0, f1, f2])) (hc : P.cellsOf t = 3)
    (h0 : f0.offset = 0 ∧ P.cellsOf f0.type = 1) (h1 : f1.offset = 1 ∧ P.cellsOf f1.type = 1) (h2 : f2.offset = 2 ∧ P.cellsOf f2.type = 1) (hsz : Sz P t x.1) (h : DataW.trod enc P w base spare held fuel t cs = some x) :
    ∃ v0 v1 v2 n y0 y1 y2, cs = [v0, v1, v2] ∧ (Sz P f0.type y0.1 ∧ Sz P f1.type y1.1 ∧ Sz P f2.type y2.1) ∧ DataW.trod enc P w base spare held n f0.type [v0] = some y0 ∧ DataW.trod enc P w base spare held n f1.type [v1] = some y1 ∧ DataW.trod enc P w base spare held n f2.type [v2] = some y2 := by
  obtain ⟨xs, n, _, rfl, hl, hx, hf⟩ := DataW.trod_struct ht h
  rw [hc] at hl
  match cs, hl with
  | [v0, v1, v2], _ =>
    have e0 := hf 0 f0 rfl
    have e1 := hf 1 f1 rfl
    have e2 := hf 2 f2 rfl
    rw [h0.1, h0.2] at e0
    rw [h1.1, h1.2] at e1
    rw [h2.1, h2.2] at e2
    match xs, hx with
    | [y0, y1, y2], _ => exact ⟨v0, v1, v2, n, y0, y1, y2, rfl, Sz.three ht hsz, e0, e1, e2⟩
def chk2 (P : Program) (t a b : Nat) : Bool := Nat.beq (P.cellsOf t) 2 && (match P.underlying t with
  | some (.struct fs) => (match fs.toList with
    | [f0, f1] => Nat.beq f0.type a && Nat.beq f0.offset 0 && Nat.beq (P.cellsOf a) 1 && Nat.beq f1.type b && Nat.beq f1.offset 1 && Nat.beq (P.cellsOf b) 1
    | _ => false)
  | _ => false)
def chk3 (P : Program) (t a b c : Nat) : Bool := Nat.beq (P.cellsOf t) 3 && (match P.underlying t with
  | some (.struct fs) => (match fs.toList with
    | [f0, f1, f2] => Nat.beq f0.type a && Nat.beq f0.offset 0 && Nat.beq (P.cellsOf a) 1 && Nat.beq f1.type b && Nat.beq f1.offset 1 && Nat.beq (P.cellsOf b) 1 && Nat.beq f2.type c && Nat.beq f2.offset 2 && Nat.beq (P.cellsOf c) 1
    | _ => false)
  | _ => false)
theorem opn2 {spare : Nat → Bool} {held : Bool} {t a b : Nat} {fuel : Nat} {cs : List Value} {x : DataW H × List MemPlace} (hc : chk2 P t a b = true) (hsz : Sz P t x.1) (h : DataW.trod enc P w base spare held fuel t cs = some x) :
    ∃ v0 v1 n y0 y1, cs = [v0, v1] ∧ (Sz P a y0.1 ∧ Sz P b y1.1) ∧ DataW.trod enc P w base spare held n a [v0] = some y0 ∧ DataW.trod enc P w base spare held n b [v1] = some y1 := by
  unfold chk2 at hc
  rw [Bool.and_eq_true] at hc
  obtain ⟨hc0, hc⟩ := hc
  split at hc
  · rename_i fs hu
    split at hc
    · rename_i f0 f1 hfs
      have : fs = #[f0, f1] := Array.ext' hfs
      subst this
      simp only [Bool.and_eq_true] at hc
      obtain ⟨⟨⟨⟨⟨h1, h2⟩, h3⟩, h4⟩, h5⟩, h6⟩ := hc
      cases Nat.eq_of_beq_eq_true h1
      cases Nat.eq_of_beq_eq_true h4
      exact open_two hu (Nat.eq_of_beq_eq_true hc0) ⟨Nat.eq_of_beq_eq_true h2, Nat.eq_of_beq_eq_true h3⟩ ⟨Nat.eq_of_beq_eq_true h5, Nat.eq_of_beq_eq_true h6⟩ hsz h
    · cases hc
  · cases hc
theorem opn3 {spare : Nat → Bool} {held : Bool} {t a b c : Nat} {fuel : Nat} {cs : List Value} {x : DataW H × List MemPlace} (hc : chk3 P t a b c = true) (hsz : Sz P t x.1) (h : DataW.trod enc P w base spare held fuel t cs = some x) :
    ∃ v0 v1 v2 n y0 y1 y2, cs = [v0, v1, v2] ∧ (Sz P a y0.1 ∧ Sz P b y1.1 ∧ Sz P c y2.1) ∧ DataW.trod enc P w base spare held n a [v0] = some y0 ∧ DataW.trod enc P w base spare held n b [v1] = some y1 ∧ DataW.trod enc P w base spare held n c [v2] = some y2 := by
  unfold chk3 at hc
  rw [Bool.and_eq_true] at hc
  obtain ⟨hc0, hc⟩ := hc
  split at hc
  · rename_i fs hu
    split at hc
    · rename_i f0 f1 f2 hfs
      have : fs = #[f0, f1, f2] := Array.ext' hfs
      subst this
      simp only [Bool.and_eq_true] at hc
      obtain ⟨⟨⟨⟨⟨⟨⟨⟨h1, h2⟩, h3⟩, h4⟩, h5⟩, h6⟩, h7⟩, h8⟩, h9⟩ := hc
      cases Nat.eq_of_beq_eq_true h1
      cases Nat.eq_of_beq_eq_true h4
      cases Nat.eq_of_beq_eq_true h7
      exact open_three hu (Nat.eq_of_beq_eq_true hc0) ⟨Nat.eq_of_beq_eq_true h2, Nat.eq_of_beq_eq_true h3⟩ ⟨Nat.eq_of_beq_eq_true h5, Nat.eq_of_beq_eq_true h6⟩ ⟨Nat.eq_of_beq_eq_true h8, Nat.eq_of_beq_eq_true h9⟩ hsz h
    · cases hc
  · cases hc
end
end Go.Proofs.YtibhpoikhkokiaaGreat.Hw

/- Histories: HistoryFitting walked (c3), and what comes in, opened. -/
set_option linter.unusedVariables false
set_option linter.unusedSimpArgs false
set_option maxRecDepth 100000
namespace Go.Proofs.YtibhpoikhkokiaaGreat.Hw
open Go Go.Proofs
section
variable {H H' : Hp} {Q : Value → Hp → Prop}
theorem c10 {A : Option Addr} {n c : Nat} (hq : Q (.bool (decide ((n : Int) > 120))) H) : HCalls Tryz.prog 10 [.slice A n c] H Q := by
  refine f10.ok _ _ _ ?_
  unfold f10; exact hq
theorem c3 {A S : Option Addr} {n c ns cs : Nat} {l : List Ev} {T : List Int} (hA : SlAt evC H A n l) (hc : n ≤ c) (hS : SlAt inC H S ns T) (hq : ∀ H', Ext H H' → Q (.bool true) H') : HCalls Tryz.prog 3 [.slice A n c, .slice S ns cs] H Q := by
  refine f3.ok _ _ _ _ _ _ ?_
  unfold f3
  refine jn_intro (fun J => ∀ b, J b H) (fun b => ?_) fun J hJ => c10 ⟨_, rfl, cndI (fun _ => hJ _) fun _ => hJ _⟩
  refine cndI (fun _ => c11 fun H8 x8 => ⟨_, rfl, hq H8 x8⟩) fun _ => ?_
  refine c12 hA hc hS fun H11 x11 => ⟨_, _, rfl, ?_⟩
  cases hv : validM l with
  | false => exact jn_intro (fun J => ∀ b, b = true → J b) (fun b hb => cndT hb (c11 fun H17 x17 => ⟨_, rfl, hq H17 (x11.trans x17)⟩)) fun J hJ => cndT rfl (hJ _ rfl)
  | true =>
    obtain ⟨hok, hlen⟩ := valid_ok hv
    refine jn_intro (fun J => ∀ b, (b = false → fitsM l T = true) → J b) (fun b hb => cndI (fun _ => c11 fun H17 x17 => ⟨_, rfl, hq H17 (x11.trans x17)⟩) fun hf => ?_) fun J hJ => cndF rfl (hJ _ fun h => by simpa using h)
    have hfit := hb hf
    refine c13 (hA.ext x11) hc ⟨(fun h => by rw [hv] at h; cases h), fun _ rs A21 c21 H20 ha x20 S21 _ => ⟨_, _, _, _, rfl, ?_⟩⟩
    have hfa := fit_faults hok hfit ha
    have hx20 := x11.trans x20
    refine scan S21.lt (fun i H' => H' = H20) rfl (fun i H24 next hi hI hnext => ?_) (fun H24 next hI => ?_)
    · obtain rfl := hI
      obtain ⟨s, hs⟩ := get_of hi
      dsimp only
      have hne : (faultsF l rs).flatMap stC ≠ [] := flat_ne (k := 1) (fun x _ => rfl) (by omega) (fun e => by rw [e] at hi; simp at hi)
      refine cndT (decide_eq_true (by omega)) ⟨by omega, by omega, at_cells S21.cells hne fun b26 o26 _ k26 => ⟨s, ?_, ?_⟩⟩
      · have := k26 (i * 1 + 0) _ (flat_get (k := 1) (fun x _ => rfl) hs (by omega))
        simpa using this
      · refine jn_intro (fun J => J false) (cndF rfl ⟨rfl, hnext H24 rfl⟩) fun J hJ => cndI (fun h1 => ?_) fun h1 => hJ
        rcases hfa s (List.mem_of_getElem? hs) with rfl | rfl
        · have : (sRw.toList == sRw.toList) = true := beq_iff_eq.2 rfl
          have h2 : (!(sRw.toList == sRw.toList)) = true := h1
          rw [this] at h2; cases h2
        · have : (!(sRs.toList == ({ data := #[99, 105, 114, 99, 108, 101, 115, 32, 114, 119] } : ByteArray).toList)) = false := by
            rw [show (sRs.toList == ({ data := #[99, 105, 114, 99, 108, 101, 115, 32, 114, 119] } : ByteArray).toList) = true from beq_iff_eq.2 rfl]; rfl
          rw [this]; exact hJ
    · obtain rfl := hI
      dsimp only
      exact cndF (decide_eq_false (by omega)) (jn_intro (fun J => ∀ H', Ext H24 H' → J true H') (fun H' hx => hq H' (hx20.trans hx)) fun J hJ => cndT rfl (c11 fun H31 x31 => ⟨_, rfl, hJ H31 x31⟩))
end
/-! ### what comes in -/
theorem u22 : Tryz.prog.underlying 22 = some (.slice 35) := by kernel_rfl
theorem u23 : Tryz.prog.underlying 23 = some (.slice 3) := by kernel_rfl
theorem u4 : Tryz.prog.underlying 4 = some .bool := by kernel_rfl
theorem u3 : Tryz.prog.underlying 3 = some (.int .i64) := by kernel_rfl
theorem u33 : Tryz.prog.underlying 33 = some (.int .i64) := by kernel_rfl
theorem z35 : Tryz.prog.cellsOf 35 = 5 := by kernel_rfl
theorem z3 : Tryz.prog.cellsOf 3 = 1 := by kernel_rfl
theorem z33 : Tryz.prog.cellsOf 33 = 1 := by kernel_rfl
theorem y35 : 0 < Tryz.prog.bytesOf 35 := of_decide_eq_true (by kernel_rfl)
theorem y3 : 0 < Tryz.prog.bytesOf 3 := of_decide_eq_true (by kernel_rfl)
def chkE (d : Option TypeDesc) : Bool := match d with
  | some (.struct fs) => (match fs.toList with
    | [f0, f1, f2, f3, f4] => Nat.beq f0.type 33 && Nat.beq f0.offset 0 && Nat.beq f1.type 3 && Nat.beq f1.offset 1 && Nat.beq f2.type 3 && Nat.beq f2.offset 2 && Nat.beq f3.type 3 && Nat.beq f3.offset 3 && Nat.beq f4.type 3 && Nat.beq f4.offset 4
    | _ => false)
  | _ => false
theorem k35 : chkE (Tryz.prog.underlying 35) = true := by kernel_rfl
section
variable {X : Type} {enc : TypeId × Value → X} {w : World} {base : Nat} {spare : Nat → Bool} {held : Bool} {fuel : Nat} {cs : List Value} {x : DataW X × List MemPlace}
theorem flat_choose {α : Type} {f : Nat → List Value} {g : α → List Value} : ∀ {n : Nat}, (∀ i, i < n → ∃ a, f i = g a) → ∃ l : List α, l.length = n ∧ (List.range n).flatMap f = l.flatMap g
  | 0, _ => ⟨[], rfl, rfl⟩
  | n + 1, h => by
    obtain ⟨l, h1, h2⟩ := flat_choose (n := n) (fun i hi => h i (by omega))
    obtain ⟨a, ha⟩ := h n (by omega)
    refine ⟨l ++ [a], by simp [h1], ?_⟩
    rw [List.range_succ, List.flatMap_append, List.flatMap_append, h2]
    simp [ha]
theorem open_ev (h : DataW.trod enc Tryz.prog w base spare held fuel 35 cs = some x) : ∃ a : Ev, cs = evC a := by
  have hk := k35
  cases hu : Tryz.prog.underlying 35 with
  | none => rw [hu] at hk; cases hk
  | some d =>
    rw [hu] at hk
    unfold chkE at hk
    split at hk
    · rename_i fs hfs
      cases hfs
      split at hk
      · rename_i f0 f1 f2 f3 f4 hl
        have : fs = #[f0, f1, f2, f3, f4] := Array.ext' hl
        subst this
        simp only [Bool.and_eq_true] at hk
        obtain ⟨⟨⟨⟨⟨⟨⟨⟨⟨a0, b0⟩, a1⟩, b1⟩, a2⟩, b2⟩, a3⟩, b3⟩, a4⟩, b4⟩ := hk
        have a0 := Nat.eq_of_beq_eq_true a0
        have a1 := Nat.eq_of_beq_eq_true a1
        have a2 := Nat.eq_of_beq_eq_true a2
        have a3 := Nat.eq_of_beq_eq_true a3
        have a4 := Nat.eq_of_beq_eq_true a4
        have b0 := Nat.eq_of_beq_eq_true b0
        have b1 := Nat.eq_of_beq_eq_true b1
        have b2 := Nat.eq_of_beq_eq_true b2
        have b3 := Nat.eq_of_beq_eq_true b3
        have b4 := Nat.eq_of_beq_eq_true b4
        obtain ⟨xs, n, _, hx, hlen, hxl, hf⟩ := DataW.trod_struct hu h
        rw [z35] at hlen
        match cs, hlen, xs, hxl with
        | [v0, v1, v2, v3, v4], _, [y0, y1, y2, y3, y4], _ =>
          have e0 := hf 0 f0 rfl
          have e1 := hf 1 f1 rfl
          have e2 := hf 2 f2 rfl
          have e3 := hf 3 f3 rfl
          have e4 := hf 4 f4 rfl
          rw [a0, b0, z33] at e0
          rw [a1, b1, z3] at e1
          rw [a2, b2, z3] at e2
          rw [a3, b3, z3] at e3
          rw [a4, b4, z3] at e4
          obtain ⟨o0, h0, _⟩ := DataW.trod_int u33 e0
          obtain ⟨o1, h1, _⟩ := DataW.trod_int u3 e1
          obtain ⟨o2, h2, _⟩ := DataW.trod_int u3 e2
          obtain ⟨o3, h3, _⟩ := DataW.trod_int u3 e3
          obtain ⟨o4, h4, _⟩ := DataW.trod_int u3 e4
          simp at h0 h1 h2 h3 h4
          exact ⟨⟨o0, o1, o2, o3, o4⟩, by rw [h0, h1, h2, h3, h4]; rfl⟩
      · cases hk
    · cases hk
theorem open_cap {t e : TypeId} (ht : Tryz.prog.underlying t = some (.slice e)) (h : DataW.trod enc Tryz.prog w base spare held fuel t cs = some x) {A : Option Addr} {n c : Nat} (hc : cs = [.slice A n c]) : n ≤ c := by
  rcases Go.Deep.open_slice ht h with ⟨rfl, _⟩ | ⟨a, len, cap, m, n', D, Pl, rfl, hb, hl, _⟩
  · cases hc; exact Nat.le_refl _
  · cases hc; omega
theorem open_evs (hsz : Sz Tryz.prog 22 x.1) (h : DataW.trod enc Tryz.prog w base spare held fuel 22 cs = some x) : ∃ A n c l, cs = [.slice A n c] ∧ SlAt evC (hpOf w) A n l ∧ n ≤ c := by
  obtain ⟨A, n, c, f, rfl, hm, hc, hf⟩ := open_cells u22 (by rw [z35]; decide) y35 hsz h
  obtain ⟨l, h1, h2⟩ := flat_choose (g := evC) (n := n) (f := f) fun i hi => by
    obtain ⟨_, m, y, _, hy⟩ := hf i hi
    exact open_ev hy
  refine ⟨A, n, c, l, rfl, ⟨h1.symm, by rw [← h2]; exact hc, ?_⟩, open_cap u22 h rfl⟩
  rw [h1]; unfold huge; unfold reachBytes at hm; omega
theorem open_nums (hsz : Sz Tryz.prog 23 x.1) (h : DataW.trod enc Tryz.prog w base spare held fuel 23 cs = some x) : ∃ A n c l, cs = [.slice A n c] ∧ SlAt inC (hpOf w) A n l := by
  obtain ⟨A, n, c, f, rfl, hm, hc, hf⟩ := open_cells u23 (by rw [z3]; decide) y3 hsz h
  obtain ⟨l, h1, h2⟩ := flat_choose (g := inC) (n := n) (f := f) fun i hi => by
    obtain ⟨_, m, y, hys, hy⟩ := hf i hi
    obtain ⟨k, hk, _⟩ := DataW.trod_int u3 hy
    exact ⟨k, hk⟩
  refine ⟨A, n, c, l, rfl, ⟨h1.symm, by rw [← h2]; exact hc, ?_⟩⟩
  rw [h1]; unfold huge; unfold reachBytes at hm; omega
end
open Go.ChangeShapes Go.WideShapes Go.ChangeAt Go.RowKit
theorem ownK : ownKnob Tryz.prog.godebug = none := by kernel_rfl
theorem cellsB_prog : cellsB Tryz.prog = true := by kernel_rfl
/-- A Boolean result's reading. -/
theorem res_bool {X : Type} {enc : TypeId × Value → X} {W : World} (b : Nat) (sp : Nat → Bool) (hd : Bool) (x : Bool) : DataW.TrodAll enc Tryz.prog W b sp hd [4] [.bool x] [.lit (.bool x)] [] :=
  trodAll_mk1 ⟨1, by simp only [DataW.trod, Value.cells, u4]⟩
theorem ok_bool {W : World} (x : Bool) : Value.okWide Tryz.prog W .any 0 4 (.bool x) := by
  unfold Value.okWide; rw [u4]; simp only [Cell.okWide, u4]; exact trivial
theorem slice_of {P : Program} {W : World} {base : Nat} {t e : TypeId} {v : Value} {A : Option Addr} {n c : Nat} (hs : P.underlying t = some (.slice e)) (h : Value.okWide P W .any base t v) (hc : v.cells.toList = [.slice A n c]) : v = .slice A n c := by
  simp only [Value.okWide, hs, Cell.okWide] at h
  cases v <;> simp_all [Cell.ok, Value.cells]
theorem int_of {P : Program} {W : World} {base : Nat} {t : TypeId} {k k' : IntKind} {v : Value} {n : Int} (hs : P.underlying t = some (.int k)) (h : Value.okWide P W .any base t v) (hc : v.cells.toList = [.int k' n]) : v = .int k' n := by
  simp only [Value.okWide, hs, Cell.okWide] at h
  cases v <;> simp_all [Cell.ok, Value.cells]
/-- What the row wants to hear of a result that is a Boolean. -/
theorem ok_bools {W : World} {f : Func} (hf : f.resultTypes = #[4]) (x : Bool) : ∀ (j : Nat) (t : TypeId) (r : Value), f.resultTypes[j]? = some t → ((Value.bool x).resultList f.resultTypes.size)[j]? = some r → Value.okWide Tryz.prog W .any 0 t r := by
  intro j t r h1 h2
  rw [hf] at h1 h2
  match j with
  | 0 =>
    cases (h1 : some 4 = some t)
    cases (h2 : some (Value.bool x) = some r)
    exact ok_bool x
  | j + 1 => cases h1
end Go.Proofs.YtibhpoikhkokiaaGreat.Hw

/- Histories: other numbers of transactions change nothing (plain law). -/
set_option linter.unusedVariables false
set_option linter.unusedSimpArgs false
set_option linter.unusedSectionVars false
namespace Go.Proofs.YtibhpoikhkokiaaGreat.Hw
open Go Go.Proofs
/-- Other numbers. -/
structure Ren1 (r : Int → Int) : Prop where
  inj : ∀ a b, r a = r b → a = b
  zero : r 0 = 0
  inr : ∀ t, inB (r t) = inB t
def rnE (r : Int → Int) (x : Ev) : Ev := ⟨x.op, r x.txn, x.item, r x.frm, x.stmt⟩
def rnA (r : Int → Int) (x : Arc) : Arc := ⟨r x.a, r x.b, x.kind, x.item⟩
theorem lastI_map {p q : Ev → Bool} {f : Ev → Ev} (h : ∀ x, q (f x) = p x) {l : List Ev} : lastI q (l.map f) = lastI p l := by
  unfold lastI
  rw [← List.map_reverse, List.findIdx?_map, List.length_map]
  congr 2
  funext x
  exact h x
section
variable {r : Int → Int} (R : Ren1 r)
include R
theorem Ren1.eq (a b : Int) : (r a == r b) = (a == b) := by
  rw [Bool.eq_iff_iff, beq_iff_eq, beq_iff_eq]
  exact ⟨R.inj a b, fun h => by rw [h]⟩
theorem Ren1.ne (a b : Int) : (r a != r b) = (a != b) := by unfold bne; rw [R.eq]
theorem Ren1.z (a : Int) : (r a == 0) = (a == 0) := by have := R.eq a 0; rwa [R.zero] at this
theorem Ren1.nz (a : Int) : (r a != 0) = (a != 0) := by unfold bne; rw [R.z]
theorem rn_isW (t i : Int) (x : Ev) : isW (r t) i (rnE r x) = isW t i x := by unfold isW rnE; rw [R.eq]
theorem rn_isB (t : Int) (x : Ev) : isB (r t) (rnE r x) = isB t x := by unfold isB rnE; rw [R.eq]
theorem rn_isC (t : Int) (x : Ev) : isC (r t) (rnE r x) = isC t x := by unfold isC rnE; rw [R.eq]
theorem rn_isE (t : Int) (x : Ev) : isE (r t) (rnE r x) = isE t x := by unfold isE rnE; rw [R.eq]
theorem any_rn {p q : Ev → Bool} (h : ∀ x, q (rnE r x) = p x) (l : List Ev) : (l.map (rnE r)).any q = l.any p := by
  rw [List.any_map]; congr 1; funext x; exact h x
theorem rn_begun (p : List Ev) (t : Int) : begunM (p.map (rnE r)) (r t) = begunM p t := any_rn R (rn_isB R t) p
theorem rn_ended (p : List Ev) (t : Int) : endedM (p.map (rnE r)) (r t) = endedM p t := any_rn R (rn_isE R t) p
theorem rn_wrote (p : List Ev) (t i : Int) : wroteM (p.map (rnE r)) (r t) i = wroteM p t i := any_rn R (rn_isW R t i) p
theorem rn_stmt (p : List Ev) (t : Int) : stmtM (p.map (rnE r)) (r t) = stmtM p t := by
  unfold stmtM
  rw [List.foldl_map]
  congr 1
  funext s x
  unfold stmtStep rnE
  rw [R.eq]
theorem rn_open : ∀ (p : List Ev) (i : Int) (s : Option Int), (p.map (rnE r)).foldl (openStep i) (s.map r) = (p.foldl (openStep i) s).map r
  | [], i, s => rfl
  | x :: p, i, s => by
    rw [List.map_cons, List.foldl_cons, List.foldl_cons, ← rn_open p i]
    congr 1
    unfold openStep rnE
    have : (s.map r == some (r x.txn)) = (s == some x.txn) := by
      cases s with
      | none => rfl
      | some y => exact R.eq y x.txn
    simp only [this]
    split
    · rfl
    · split <;> rfl
theorem rn_taken (p : List Ev) (t i : Int) : takenB (p.map (rnE r)) (r t) i = takenB p t i := by
  unfold takenB openM
  have := rn_open R p i none
  rw [show (none : Option Int).map r = none from rfl] at this
  rw [this]
  cases p.foldl (openStep i) none with
  | none => rfl
  | some w => show (!(r w == r t)) = !(w == t); rw [R.eq]
theorem rn_plain (x : Ev) : plainB (rnE r x) = plainB x := by unfold plainB rnE; rw [R.z]
theorem rn_evOk (p : List Ev) (x : Ev) : evOk (p.map (rnE r)) (rnE r x) = evOk p x := by
  unfold evOk
  rw [rn_plain R]
  unfold rnE
  simp only [R.inr, R.z]
  rw [show (List.map (fun x => (⟨x.op, r x.txn, x.item, r x.frm, x.stmt⟩ : Ev)) p) = p.map (rnE r) from rfl, rn_ended R, rn_begun R, rn_stmt R, rn_wrote R, rn_taken R]
theorem rn_ok (l : List Ev) (n : Nat) : OkTo (l.map (rnE r)) n ↔ OkTo l n := by
  unfold OkTo
  constructor
  · intro h i x hi hx
    have := h i (rnE r x) hi (by rw [List.getElem?_map, hx]; rfl)
    rwa [← List.map_take, rn_evOk R] at this
  · intro h i y hi hy
    rw [List.getElem?_map] at hy
    cases hx : l[i]? with
    | none => rw [hx] at hy; cases hy
    | some x =>
      rw [hx] at hy
      cases hy
      rw [← List.map_take, rn_evOk R]
      exact h i x hi hx
theorem rn_valid (l : List Ev) : validM (l.map (rnE r)) = validM l := by
  unfold validM
  rw [List.length_map]
  congr 1
  rw [Bool.eq_iff_iff, good_iff, good_iff, List.length_map]
  exact rn_ok R l l.length
theorem rn_commitI (l : List Ev) (t : Int) : commitI (l.map (rnE r)) (r t) = commitI l t := lastI_map (rn_isC R t)
theorem rn_beginI (l : List Ev) (t : Int) : beginI (l.map (rnE r)) (r t) = beginI l t := lastI_map (rn_isB R t)
theorem rn_lastW (l : List Ev) (t i : Int) : lastW (l.map (rnE r)) (r t) i = lastW l t i := lastI_map (rn_isW R t i)
theorem rn_comB (l : List Ev) (t : Int) : comB (l.map (rnE r)) (r t) = comB l t := by unfold comB; rw [rn_commitI R]
theorem rn_comAt (l : List Ev) (t : Int) : comAt (l.map (rnE r)) (r t) = comAt l t := by unfold comAt; rw [rn_commitI R]
theorem rn_begAt (l : List Ev) (t : Int) : begAt (l.map (rnE r)) (r t) = begAt l t := by unfold begAt; rw [rn_beginI R]
theorem map_fm {α β γ : Type} {f : α → Option β} {g : β → γ} : ∀ {l : List α}, (l.filterMap f).map g = l.filterMap fun a => (f a).map g
  | [] => rfl
  | a :: l => by
    rw [List.filterMap_cons, List.filterMap_cons]
    cases f a with
    | none => exact map_fm
    | some b => simp only [Option.map_some, List.map_cons, map_fm]
theorem rn_vers (l : List Ev) (i : Int) : versM (l.map (rnE r)) i = (versM l i).map r := by
  unfold versM
  rw [map_fm R, List.length_map]
  apply fm_congr
  intro j _
  rw [List.getElem?_map]
  cases l[j]? with
  | none => rfl
  | some x =>
    simp only [Option.map_some]
    rw [← List.map_take]
    show (if x.op == 4 && wroteM ((l.take j).map (rnE r)) (r x.txn) i then some (r x.txn) else none) = _
    rw [rn_wrote R]
    split <;> rfl
theorem rn_find (t : Int) : ∀ l : List Int, (l.map r).findIdx? (fun y => r t == y) = l.findIdx? (fun y => t == y) := fun l => by
  rw [List.findIdx?_map]
  congr 1
  funext y
  exact R.eq t y
theorem rn_next (l : List Ev) (i f : Int) : nextM (l.map (rnE r)) i (r f) = r (nextM l i f) := by
  unfold nextM
  rw [rn_vers R, R.z, rn_find R]
  have hg : ∀ j : Nat, (((versM l i).map r)[j]?).getD 0 = r (((versM l i)[j]?).getD 0) := fun j => by
    rw [List.getElem?_map]
    cases (versM l i)[j]? with
    | none => exact R.zero.symm
    | some y => rfl
  split
  · exact hg 0
  · cases (versM l i).findIdx? (fun y => f == y) with
    | none => exact R.zero.symm
    | some j => exact hg (j + 1)
theorem rn_bad (l : List Ev) (x : Ev) : badRead (l.map (rnE r)) (rnE r x) = badRead l x := by
  unfold badRead
  show ((x.op == 2) && ((r x.frm != 0) && ((r x.frm != r x.txn) && comB (l.map (rnE r)) (r x.txn)))) = _
  rw [R.nz, R.ne, rn_comB R]
theorem rn_ab (l : List Ev) (n : Nat) : abTo (l.map (rnE r)) n = abTo l n := by
  unfold abTo
  rw [← List.map_take]
  refine any_rn R (fun x => ?_) _
  rw [rn_bad R]
  show (_ && !comB (l.map (rnE r)) (r x.frm)) = _
  rw [rn_comB R]
theorem rn_bt (l : List Ev) (n : Nat) : btTo (l.map (rnE r)) n = btTo l n := by
  unfold btTo
  congr 1
  funext i
  unfold btAt
  rw [List.getElem?_map]
  cases l[i]? with
  | none => rfl
  | some x =>
    simp only [Option.map_some]
    rw [rn_bad R]
    show (_ && decide (i < natOr (lastW (l.map (rnE r)) (r x.frm) x.item))) = _
    rw [rn_lastW R]
theorem rn_com_back {l : List Ev} {a : Int} (h : comB (l.map (rnE r)) a = true) : ∃ t, a = r t := by
  obtain ⟨i, y, hy, hp⟩ := com_ex.1 h
  rw [List.getElem?_map] at hy
  cases hx : l[i]? with
  | none => rw [hx] at hy; cases hy
  | some x =>
    rw [hx] at hy
    cases hy
    exact ⟨x.txn, (isC_iff.1 hp).2.symm⟩
theorem rn_arc {l : List Ev} {x : Arc} : ArcIs (l.map (rnE r)) (rnA r x) ↔ ArcIs l x := by
  unfold ArcIs rnA
  simp only [rn_comB R, rn_vers R, List.getElem?_map]
  have e1 : r x.a ≠ r x.b ↔ x.a ≠ x.b := ⟨fun h e => h (by rw [e]), fun h e => h (R.inj _ _ e)⟩
  have e2 : ∀ {o : Option Int} {t : Int}, o.map r = some (r t) ↔ o = some t := fun {o t} => by
    cases o with
    | none => simp
    | some y => simp only [Option.map_some, Option.some.injEq]; exact ⟨R.inj _ _, fun h => by rw [h]⟩
  rw [e1]
  simp only [e2]
  refine and_congr_right fun _ => and_congr_right fun _ => and_congr_right fun _ => or_congr_right (or_congr (and_congr_right fun _ => ?_) (and_congr_right fun _ => ?_))
  · constructor
    · rintro ⟨i, e, he, ho, hlt, ea, eb, ei⟩
      cases hx : l[i]? with
      | none => rw [hx] at he; cases he
      | some y =>
        rw [hx] at he; cases he
        refine ⟨i, y, hx, ho, ?_, R.inj _ _ ea, R.inj _ _ eb, ei⟩
        have := hlt
        change natOr (lastW (l.map (rnE r)) (r y.frm) y.item) < i at this
        rwa [rn_lastW R] at this
    · rintro ⟨i, e, he, ho, hlt, ea, eb, ei⟩
      refine ⟨i, rnE r e, by rw [he]; rfl, ho, ?_, by rw [ea]; rfl, by rw [eb]; rfl, ei⟩
      show natOr (lastW (l.map (rnE r)) (r e.frm) e.item) < i
      rwa [rn_lastW R]
  · constructor
    · rintro ⟨i, e, he, ho, hc, ea, eb, ei⟩
      cases hx : l[i]? with
      | none => rw [hx] at he; cases he
      | some y =>
        rw [hx] at he; cases he
        refine ⟨i, y, hx, ho, ?_, R.inj _ _ ea, ?_, ei⟩
        · rcases hc with hc | hc
          · exact .inl (R.inj _ _ (by rw [R.zero]; exact hc))
          · change comB (l.map (rnE r)) (r y.frm) = true at hc
            rw [rn_comB R] at hc
            exact .inr hc
        · change r x.b = nextM (l.map (rnE r)) y.item (r y.frm) at eb
          rw [rn_next R] at eb
          exact R.inj _ _ eb
    · rintro ⟨i, e, he, ho, hc, ea, eb, ei⟩
      refine ⟨i, rnE r e, by rw [he]; rfl, ho, ?_, by rw [ea]; rfl, ?_, ei⟩
      · rcases hc with hc | hc
        · exact .inl (by show r e.frm = 0; rw [hc, R.zero])
        · refine .inr ?_
          show comB (l.map (rnE r)) (r e.frm) = true
          rw [rn_comB R]; exact hc
      · show r x.b = nextM (l.map (rnE r)) e.item (r e.frm)
        rw [rn_next R, eb]
theorem rn_arcs {l : List Ev} {rs rs' : List Arc} (h : ArcsOf l rs) (h' : ArcsOf (l.map (rnE r)) rs') (y : Arc) : y ∈ rs' ↔ ∃ x ∈ rs, y = rnA r x := by
  rw [h'.2, arc_iff]
  constructor
  · intro hy
    obtain ⟨a, ha⟩ := rn_com_back R hy.2.1
    obtain ⟨b, hb⟩ := rn_com_back R hy.2.2.1
    have e : y = rnA r ⟨a, b, y.kind, y.item⟩ := by unfold rnA; cases y; simp only at ha hb; rw [ha, hb]
    rw [e] at hy
    exact ⟨_, (h.2 _).2 (arc_iff.2 ((rn_arc R).1 hy)), e⟩
  · rintro ⟨x, hx, rfl⟩
    exact (rn_arc R).2 (arc_iff.1 ((h.2 x).1 hx))
section
variable {rs rs' : List Arc} (h : ∀ y, y ∈ rs' ↔ ∃ x ∈ rs, y = rnA r x)
include h
theorem rn_reach {want : Int → Bool} {s y : Int} : ReachR rs' want (r s) (r y) ↔ ReachR rs want s y := by
  constructor
  · intro hr
    have key : ∀ z, ReachR rs' want (r s) z → ∃ y, z = r y ∧ ReachR rs want s y := fun z hz => by
      induction hz with
      | refl => exact ⟨s, rfl, .refl⟩
      | @step x' _ hx hw ih =>
        obtain ⟨y0, e, hy0⟩ := ih
        obtain ⟨x, hx1, rfl⟩ := (h x').1 hx
        have : x.a = y0 := R.inj _ _ e
        exact ⟨x.b, rfl, .step (this ▸ hy0) hx1 hw⟩
    obtain ⟨y', e, hy⟩ := key _ hr
    rw [R.inj _ _ e]; exact hy
  · intro hr
    induction hr with
    | refl => exact .refl
    | @step x _ hx hw ih => exact .step (x := rnA r x) ih ((h _).2 ⟨x, hx, rfl⟩) hw
theorem rn_circ (kind : Int) (want : Int → Bool) : circB rs' kind want = circB rs kind want := by
  rw [Bool.eq_iff_iff, circB_iff, circB_iff]
  constructor
  · rintro ⟨y, hy, hk, hr⟩
    obtain ⟨x, hx, rfl⟩ := (h y).1 hy
    exact ⟨x, hx, hk, (rn_reach R h).1 hr⟩
  · rintro ⟨x, hx, hk, hr⟩
    exact ⟨rnA r x, (h _).2 ⟨x, hx, rfl⟩, hk, (rn_reach R h).2 hr⟩
theorem rn_circs : circsB rs' = circsB rs := by
  rw [Bool.eq_iff_iff, circsB_iff, circsB_iff]
  constructor
  · rintro ⟨y, hy, hr⟩
    obtain ⟨x, hx, rfl⟩ := (h y).1 hy
    exact ⟨x, hx, (rn_reach R h).1 hr⟩
  · rintro ⟨x, hx, hr⟩
    exact ⟨rnA r x, (h _).2 ⟨x, hx, rfl⟩, (rn_reach R h).2 hr⟩
end
theorem rn_faults {l : List Ev} {rs rs' : List Arc} (h : ArcsOf l rs) (h' : ArcsOf (l.map (rnE r)) rs') : faultsF (l.map (rnE r)) rs' = faultsF l rs := by
  have hm := rn_arcs R h h'
  unfold faultsF
  rw [List.length_map, rn_ab R, rn_bt R, rn_circ R hm, rn_circ R hm, rn_circ R hm, rn_circs R hm]
/-! ### fits -/
theorem rn_last (l : List Ev) (i p : Int) : lastM (l.map (rnE r)) i p = r (lastM l i p) := by
  unfold lastM
  rw [rn_vers R]
  have key : ∀ (v : List Int) (s : Int), (v.map r).foldl (lastS (l.map (rnE r)) p) (r s) = r (v.foldl (lastS l p) s) := by
    intro v
    induction v with
    | nil => intro s; rfl
    | cons a v ih =>
      intro s
      rw [List.map_cons, List.foldl_cons, List.foldl_cons, ← ih]
      congr 1
      unfold lastS
      rw [rn_comAt R]
      split <;> rfl
  have := key (versM l i) 0
  rwa [R.zero] at this
theorem rn_clean (l : List Ev) (t i f to : Int) : cleanB (l.map (rnE r)) (r t) i f to = cleanB l t i f to := by
  unfold cleanB
  rw [rn_vers R, List.any_map]
  congr 2
  funext u
  unfold otherB
  simp only [Function.comp_apply]
  rw [R.ne, rn_comAt R]
theorem rn_okEv (l : List Ev) (t st p u : Int) (i : Nat) (x : Ev) : okEv (l.map (rnE r)) (r t) st p u i (rnE r x) = okEv l t st p u i x := by
  unfold okEv
  show (if r x.txn != r t then true else if x.op == 2 then !(wantedB st x && r x.frm != (if wroteM ((l.map (rnE r)).take i) (r t) x.item then r t else lastM (l.map (rnE r)) x.item p)) else if x.op == 3 then !(wantedB st x && !cleanB (l.map (rnE r)) (r t) x.item p (if decide (u < 0) then (i : Int) else u)) else true) = _
  rw [R.ne, ← List.map_take, rn_wrote R, rn_last R, rn_clean R]
  have : (if wroteM (l.take i) t x.item then r t else r (lastM l x.item p)) = r (if wroteM (l.take i) t x.item then t else lastM l x.item p) := by split <;> rfl
  rw [this, R.ne]
theorem rn_fitsB (l : List Ev) (t st p u : Int) : fitsB (l.map (rnE r)) (r t) st p u = fitsB l t st p u := by
  unfold fitsB
  rw [List.length_map]
  congr 1
  funext i
  unfold okAt
  rw [List.getElem?_map]
  cases l[i]? with
  | none => rfl
  | some x => exact rn_okEv R l t st p u i x
theorem rn_found (l : List Ev) (t st lo hi u : Int) : foundB (l.map (rnE r)) (r t) st lo hi u = foundB l t st lo hi u := by
  unfold foundB
  congr 1
  funext k
  exact rn_fitsB R l t st _ u
theorem rn_high (l : List Ev) (t : Int) : highM (l.map (rnE r)) (r t) = highM l t := by
  unfold highM
  rw [List.findIdx?_map, rn_commitI R]
  have : (opOf (r t) ∘ rnE r) = opOf t := by
    funext x
    show ((r x.txn == r t) && (x.op == 2 || x.op == 3)) = _
    rw [R.eq]; rfl
  rw [this]
theorem rn_serial (l : List Ev) (t : Int) : serialB (l.map (rnE r)) (r t) = serialB l t := by
  unfold serialB
  rw [rn_begAt R, rn_high R, rn_comAt R, rn_found R]
theorem rn_eachS (l : List Ev) (t : Int) (st : Int × Int × Bool) (i : Nat) : eachS (l.map (rnE r)) (r t) st i = eachS l t st i := by
  unfold eachS
  rw [List.getElem?_map]
  cases l[i]? with
  | none => rfl
  | some x =>
    simp only [Option.map_some]
    show (if r x.txn == r t then ((i : Int), x.stmt, st.2.2 && (x.stmt == st.2.1 || foundB (l.map (rnE r)) (r t) x.stmt (st.1 + 1) i (-1))) else st) = _
    rw [R.eq, rn_found R]
theorem rn_each (l : List Ev) (t : Int) : eachB (l.map (rnE r)) (r t) = eachB l t := by
  unfold eachB eachTo
  rw [rn_beginI R, rn_commitI R]
  congr 3
  funext st j
  exact rn_eachS R l t st _
theorem any_all200 (t : Int) : all200.any (fun y => t == y) = inB t := by
  rw [Bool.eq_iff_iff, List.any_eq_true]
  unfold all200 inB
  simp only [List.mem_map, List.mem_range, Bool.and_eq_true, decide_eq_true_eq, beq_iff_eq]
  constructor
  · rintro ⟨y, ⟨j, hj, rfl⟩, rfl⟩; omega
  · rintro ⟨h1, h2⟩
    exact ⟨t, ⟨(t - 1).toNat, by omega, by omega⟩, rfl⟩
theorem rn_fits (l : List Ev) (T : List Int) (hT : T = [] ∨ T = all200) : fitsM (l.map (rnE r)) T = fitsM l T := by
  unfold fitsM
  refine any_all R fun x => ?_
  show (!(x.op == 4) || okT (l.map (rnE r)) T (r x.txn)) = _
  congr 1
  unfold okT
  rw [rn_serial R, rn_each R]
  rcases hT with rfl | rfl
  · rfl
  · rw [any_all200 R, any_all200 R, R.inr]
where
  any_all {r : Int → Int} (R : Ren1 r) {p q : Ev → Bool} {l : List Ev} (h : ∀ x, q (rnE r x) = p x) : (l.map (rnE r)).all q = l.all p := by
    rw [List.all_map]; congr 1; funext x; exact h x
end
/-- Transactions' numbers, turned on by some. -/
def turn (k : Int) (t : Int) : Int := if inB t then Int.tmod (t - 1 + k) 200 + 1 else t
theorem turn_ren {k : Int} (h0 : 0 ≤ k) (h1 : k < 200) : Ren1 (turn k) := by
  have hin : ∀ t, inB t = true ↔ 1 ≤ t ∧ t ≤ 200 := fun t => by unfold inB; simp
  have hm : ∀ t, 1 ≤ t → t ≤ 200 → Int.tmod (t - 1 + k) 200 = if t - 1 + k < 200 then t - 1 + k else t - 1 + k - 200 := fun t a b => by
    rw [Int.tmod_eq_emod_of_nonneg (by omega)]
    split
    · exact Int.emod_eq_of_lt (by omega) (by omega)
    · omega
  have hr : ∀ t, inB t = true → inB (turn k t) = true := fun t ht => by
    unfold turn
    rw [if_pos ht]
    have h := (hin t).1 ht
    rw [hm t h.1 h.2, hin]
    split <;> omega
  refine ⟨fun a b h => ?_, rfl, fun t => ?_⟩
  · cases ha : inB a with
    | true =>
      cases hb : inB b with
      | true =>
        unfold turn at h
        rw [if_pos ha, if_pos hb] at h
        have h2 := (hin a).1 ha
        have h3 := (hin b).1 hb
        rw [hm a h2.1 h2.2, hm b h3.1 h3.2] at h
        split at h <;> split at h <;> omega
      | false =>
        have h2 := hr a ha
        have e : turn k b = b := by unfold turn; rw [if_neg (by rw [hb]; decide)]
        rw [h, e, hb] at h2; cases h2
    | false =>
      have e : turn k a = a := by unfold turn; rw [if_neg (by rw [ha]; decide)]
      cases hb : inB b with
      | true =>
        have h2 := hr b hb
        rw [← h, e, ha] at h2; cases h2
      | false =>
        have e2 : turn k b = b := by unfold turn; rw [if_neg (by rw [hb]; decide)]
        rw [e, e2] at h; exact h
  · cases ht : inB t with
    | true => exact hr t ht
    | false => unfold turn; rw [if_neg (by rw [ht]; decide)]; exact ht
/-- In a valid history all numbers are of transactions. -/
theorem ok_nums {l : List Ev} (hok : OkTo l l.length) {i : Nat} {x : Ev} (hx : l[i]? = some x) : inB x.txn = true ∧ (x.frm = 0 ∨ inB x.frm = true) := by
  have hi := (List.getElem?_eq_some_iff.1 hx).1
  obtain ⟨h1, _, _, h2⟩ := ev_parts (hok i x hi hx)
  refine ⟨h1, ?_⟩
  rcases h2 with ⟨_, hp⟩ | ⟨_, _, _, hf⟩ | ⟨_, _, _, _, hf⟩ | ⟨_, hp⟩
  · unfold plainB at hp; simp at hp; exact .inl hp.2.1
  · rcases hf with hf | hf
    · exact .inl hf
    · obtain ⟨j, y, hj, hy, hp⟩ := any_take.1 hf
      have := (ev_parts (hok j y (by omega) hy)).1
      rw [(isW_iff.1 hp).2.1] at this
      exact .inr this
  · exact .inl hf
  · unfold plainB at hp; simp at hp; exact .inl hp.2.1
end Go.Proofs.YtibhpoikhkokiaaGreat.Hw

/- Histories: HistoryNames walked (c4). -/
set_option linter.unusedVariables false
set_option linter.unusedSimpArgs false
set_option maxRecDepth 20000
namespace Go.Proofs.YtibhpoikhkokiaaGreat.Hw
open Go Go.Proofs
section
variable {H H' : Hp} {Q : Value → Hp → Prop}
theorem rd_st {A : Option Addr} {n : Nat} {l : List ByteArray} {i : Nat} {x : ByteArray} (h : SlAt stC H A n l) (hi : l[i]? = some x) {K : Nat → Nat → Prop}
    (hk : ∀ p o, A = some ⟨p, o, none⟩ → cl H p (o + i) = some (.string x) → K p o) : onPtr A K := by
  have hlen : ∀ x ∈ l, (stC x).length = 1 := fun x _ => rfl
  have hne : l ≠ [] := fun e => by subst e; simp at hi
  refine at_cells h.cells (flat_ne hlen (by omega) hne) fun p o hA hc => hk p o hA ?_
  have := hc (i * 1 + 0) _ (flat_get hlen hi (by omega))
  rw [Nat.mul_one, Nat.add_zero] at this
  exact this
/-- The same strings. -/
theorem c15 {A B : Option Addr} {n k ca cb : Nat} {l : List ByteArray} (hA : SlAt stC H A n l) (hB : SlAt stC H B k l) (hq : Q (.bool true) H) : HCalls Tryz.prog 15 [.slice A n ca, .slice B k cb] H Q := by
  refine f15.ok _ _ _ _ _ _ ?_
  unfold f15
  obtain rfl := hA.len
  obtain rfl := hB.len
  refine cndF (by simp) ?_
  have hl1 := hA.lt
  refine scan hl1 (fun i H' => H' = H) rfl (fun i H2 next hi hI hnext => ?_) (fun H2 next hI => ?_)
  · obtain rfl := hI
    obtain ⟨x, hx⟩ := get_of hi
    dsimp only
    refine cndT (decide_eq_true (by omega)) ⟨by omega, by omega, rd_st hA hx fun q o _ k1 => ⟨x, by simpa using k1, by omega, by omega, rd_st hB hx fun q o _ k2 => ⟨x, by simpa using k2, cndF ?_ ⟨rfl, hnext H2 rfl⟩⟩⟩⟩
    rw [show (x.toList == x.toList) = true from beq_iff_eq.2 rfl]; rfl
  · obtain rfl := hI
    dsimp only
    exact cndF (decide_eq_false (by omega)) hq
theorem turn_go {k t : Int} (h0 : 0 ≤ k) (h1 : k < 200) (ht : inB t = true) : IntKind.i64.wrap ((Int.tmod (IntKind.i64.wrap ((IntKind.i64.wrap (t - 1)) + k)) 200) + 1) = turn k t := by
  have hin : 1 ≤ t ∧ t ≤ 200 := by unfold inB at ht; simpa using ht
  have hm : 0 ≤ Int.tmod (t - 1 + k) 200 ∧ Int.tmod (t - 1 + k) 200 < 200 := by
    rw [Int.tmod_eq_emod_of_nonneg (by omega)]; omega
  unfold turn
  rw [if_pos ht, wrap_id (x := t - 1) (by omega) (by omega), wrap_id (x := t - 1 + k) (by omega) (by omega), wrap_id (by omega) (by omega)]
theorem c4 {A : Option Addr} {n c : Nat} {l : List Ev} {by_ : Int} (hA : SlAt evC H A n l) (hc : n ≤ c) (h0 : 0 ≤ by_) (h1 : by_ < 256) (hq : ∀ H', Ext H H' → Q (.bool true) H') : HCalls Tryz.prog 4 [.slice A n c, .int .u8 by_] H Q := by
  refine f4.ok _ _ _ _ ?_
  unfold f4
  obtain rfl := hA.len
  have hk : ∀ {X : Prop}, (0 ≤ Int.tmod (IntKind.i64.wrap by_) 200 → Int.tmod (IntKind.i64.wrap by_) 200 < 200 → X) → X := fun {X} h => h (by rw [wrap_id (by omega) (by omega), Int.tmod_eq_emod_of_nonneg h0]; omega) (by rw [wrap_id (by omega) (by omega), Int.tmod_eq_emod_of_nonneg h0]; omega)
  refine jn_intro (fun J => (∀ H', Ext H H' → J true H') ∧ (validM l = true → ∀ H', Ext H H' → J false H')) ⟨fun H' hx => cndT rfl (c11 fun H8 x8 => ⟨_, rfl, hq H8 (hx.trans x8)⟩), fun hv H8 x8 => cndF rfl ⟨by decide, ?_⟩⟩ fun J hJ => c10 ⟨_, rfl, cndI (fun _ => hJ.1 H (Ext.refl _)) fun _ => c14 hA fun H5 x5 => ⟨_, rfl, ?_⟩⟩
  rotate_left
  · cases hv : validM l with
    | true => exact hJ.2 hv H5 x5
    | false => exact hJ.1 H5 x5
  obtain ⟨hok, hlen⟩ := valid_ok hv
  refine hk fun hk0 hk1 => ?_
  generalize Int.tmod (IntKind.i64.wrap by_) 200 = k at hk0 hk1 ⊢
  have R := turn_ren hk0 hk1
  refine loop_to l.length (fun i st H' => ∃ A1 c1, st = (((A1, ((l.take i).map (rnE (turn k))).length, c1), ((i : Int), ())), ()) ∧ Ext H8 H' ∧ Row H8 H' A1 ((l.take i).map (rnE (turn k))).length c1 5 (((l.take i).map (rnE (turn k))).flatMap evC)) ⟨none, 0, rfl, Ext.refl _, Row.nil⟩ ?_
  rintro i st H14 next hi ⟨A1, c1, rfl, hx14, Rw⟩ hnext
  dsimp only
  by_cases h : i < l.length
  · obtain ⟨x, hx⟩ := get_of h
    have ei : IntKind.i64.wrap ((i : Int) + 1) = ((i + 1 : Nat) : Int) := by rw [wrap_id (by omega) (by omega)]; rfl
    have etk : (l.take (i + 1)).map (rnE (turn k)) = (l.take i).map (rnE (turn k)) ++ [rnE (turn k) x] := by rw [take_snoc hx, List.map_append]; rfl
    have hol : ((l.take i).map (rnE (turn k))).length = i := by rw [List.length_map, List.length_take]; omega
    obtain ⟨ht, hf⟩ := ok_nums hok hx
    refine cndT (decide_eq_true (by omega)) ⟨by omega, by omega, rd_ev (hA.ext (x8.trans hx14)) hx fun q o _ k1 k2 k3 k4 k5 => ⟨x.op, by simpa using k1, x.txn, by simpa using k2, x.item, by simpa using k3, x.frm, by simpa using k4, x.stmt, by simpa using k5, by decide, ?_⟩⟩
    rw [turn_go hk0 hk1 ht]
    refine jn_intro (fun J => J (turn k x.frm)) (fun g24 hg24 => ?_) fun J hJ => cndI (fun hp => ⟨by decide, ?_⟩) fun hn => ?_
    · exact Row.push1 (w := rnE (turn k) x) (f := evC) (k := 5) (ty := 35) evC_len evC_one (by omega) Rw hx14 (by rw [hol]; unfold big; omega) hg24 fun A2 c2 H27 R2 x27 _ _ => ⟨rfl, hnext _ _ h ⟨A2, c2, by rw [ei, etk], x27, by rw [etk]; exact R2⟩⟩
    · rcases hf with hf | hf
      · have := of_decide_eq_true hp; omega
      · rw [turn_go hk0 hk1 hf]; exact hJ
    · rcases hf with hf | hf
      · rw [hf] at hJ ⊢; exact hJ
      · have := of_decide_eq_false hn
        unfold inB at hf; simp at hf; omega
  · obtain rfl : i = l.length := by omega
    rw [List.take_length] at Rw ⊢
    refine cndF (decide_eq_false (by omega)) ?_
    have hv2 : validM (l.map (rnE (turn k))) = true := by rw [rn_valid R]; exact hv
    have hA14 := hA.ext (x8.trans hx14)
    have hM14 : SlAt evC H14 A1 (l.map (rnE (turn k))).length (l.map (rnE (turn k))) := ⟨rfl, Rw.cells, by rw [List.length_map]; unfold huge; omega⟩
    have hmc := Rw.2.1
    refine c13 hA14 hc ⟨(fun h => by rw [hv] at h; cases h), fun _ rs A30 c30 H29 ha x29 S30 _ => ⟨_, _, _, _, rfl, ?_⟩⟩
    refine c13 (hM14.ext x29) hmc ⟨(fun h => by rw [hv2] at h; cases h), fun _ rs' A34 c34 H33 ha' x33 S34 _ => ⟨_, _, _, _, rfl, ?_⟩⟩
    have hfe := rn_faults R ha ha'
    rw [hfe] at S34 ⊢
    refine jn_intro (fun J => J false H33) (cndF rfl ?_) fun J hJ => c15 (S30.ext x33) S34 ⟨_, rfl, cndF rfl hJ⟩
    have hx33 := (x8.trans hx14).trans (x29.trans x33)
    have hA33 := hA.ext hx33
    have hM33 := (hM14.ext x29).ext x33
    refine c16 hA33 hc (fitsQ_of hv rfl fun H43 x43 => ⟨_, _, rfl, ?_⟩)
    refine c16 (hM33.ext x43) hmc (fitsQ_of hv2 (rn_fits R l [] (.inl rfl)) fun H47 x47 => ⟨_, _, rfl, ?_⟩)
    refine jn_intro (fun J => J false) (cndF rfl ?_) fun J hJ => cndF (by simp) (by simpa using hJ)
    refine c17 ((hA33.ext x43).ext x47) hc (fitsQ_of hv rfl fun H53 x53 => ⟨_, _, rfl, ?_⟩)
    refine c17 (((hM33.ext x43).ext x47).ext x53) hmc (fitsQ_of hv2 (rn_fits R l all200 (.inr rfl)) fun H57 x57 => ⟨_, _, rfl, ?_⟩)
    have hx57 := hx33.trans ((x43.trans x47).trans (x53.trans x57))
    exact jn_intro (fun J => ∀ H', Ext H H' → J true H') (fun H' hx => hq H' hx) fun J hJ => cndT (by simp) (cndT rfl (c11 fun H61 x61 => ⟨_, rfl, hJ H61 (hx57.trans x61)⟩))
end
end Go.Proofs.YtibhpoikhkokiaaGreat.Hw

/- The row HistoryNames, proved. -/
set_option linter.unusedVariables false
set_option linter.unusedSimpArgs false
set_option maxRecDepth 100000
namespace Go.Proofs.YtibhpoikhkokiaaGreat
open Go.ChangeShapes Go.WideShapes Go.ChangeAt Go.RowKit
open Hw
theorem names_lifted (os : Os) (started : os.Started) (H : Type) (enc : TypeId × Value → H) :
    ReturnsInHanded {} Tryz.checked os 4 .any (Rows.historyNamesSpec.pre6 enc Tryz.prog Tryz.f4 Rows.historyNamesRow.domain false) (Rows.historyNamesSpec.post enc Tryz.prog Tryz.f4 Rows.historyNamesRow.apart Rows.historyNamesRow.fresh Rows.historyNamesRow.handsOn Rows.historyNamesRow.again) := by
  refine returnsInHanded_of_change_sized (C := Tryz.checked) ownK started (by kernel_rfl) Tryz.func4
    (ChangeSpec.witness6 (enc := enc) (C := Tryz.checked) false ⟨#[], #[.slice none 0 0, .int .u8 0], []⟩ 8 (by kernel_rfl) (by kernel_rfl) (by kernel_rfl) (by kernel_rfl)) ?_
  intro W base args ds gs before hval0 hW hcnd hsz0 _
  have hval : ∀ (j : Nat) t v, Tryz.f4.params[j]? = some t → args[j]? = some v → Value.okWide Tryz.prog W .any base t v := hval0
  have hsz : (DataW.weightsEach Tryz.prog (Tryz.f4.params.toList ++ Rows.historyNamesSpec.plain.varTypes Tryz.prog) (ds ++ gs)).all (· ≤ reachBytes) = true := hsz0
  have hW' := hW
  obtain ⟨p, q, hA0, hV, rfl, hfz, hnd⟩ := hW
  have hA : DataW.TrodAll enc Tryz.prog W 0 (fun _ => true) true Tryz.f4.params.toList args.toList ds p := hA0
  rw [Tryz.params4] at hA hval hsz
  obtain ⟨v0, v1, d0, d1, p0, p1, rfl, rfl, rfl, h0, h1⟩ := trodAll_two hA
  obtain ⟨rfl, rfl⟩ := trodVars_none hV
  have hs0 : Sz Tryz.prog 22 d0 := fun n hn => by
    have := List.all_eq_true.1 hsz n (DataW.weights_mem_each (j := 0) rfl rfl n hn)
    exact of_decide_eq_true this
  obtain ⟨fl0, e0⟩ := h0
  obtain ⟨fl1, e1⟩ := h1
  obtain ⟨A, n, c, l, hc0, hp0, hcap⟩ := open_evs hs0 e0
  have u5 : Tryz.prog.underlying 5 = some (.int .u8) := by kernel_rfl
  obtain ⟨k, hc1, _, hwf⟩ := DataW.trod_int u5 e1
  have hk : 0 ≤ k ∧ k < 256 := by
    simp only [Lit.wf, IntKind.min, IntKind.max, IntKind.bits, IntKind.signed, Bool.and_eq_true, decide_eq_true_eq] at hwf
    simp at hwf
    omega
  have g0 := slice_of u22 (hval 0 22 v0 rfl rfl) hc0
  have g1 := int_of u5 (hval 1 5 v1 rfl rfl) hc1
  subst g0
  subst g1
  have key := c4 (Q := fun v H' => v = .bool true ∧ Ext (hpOf W) H') hp0 hcap hk.1 hk.2 (fun H' hx => ⟨rfl, hx⟩) W (fun b o h => h)
  refine Calls.mono key ?_
  rintro e W' ⟨v, H', rfl, ⟨rfl, hx⟩, hh, hf, _⟩
  refine ⟨_, rfl, post_look (f := Tryz.f4) cellsB_prog (by rw [Tryz.params4]; decide) hW' rfl rfl rfl (fun b sp hd => ?_) (fun b o h => hh b o (hx b o h)) hf.1 hf.2.2.1 ?_⟩
  · exact res_bool b sp hd true
  · exact ok_bools rfl true
theorem names_holds : Rows.HistoryNamesSaid :=
  OpenClaim.holds_of_wide 4 Tryz.f4 rfl rfl rfl rfl rfl rfl rfl ⟨rfl, rfl, rfl, rfl, rfl⟩ rfl rfl rfl rfl rfl (by kernel_rfl) Tryz.func4 (by kernel_rfl)
    (of_decide_eq_true (by kernel_rfl)) (by unfold Func.isWrapper; first | (rw [if_pos (by decide +kernel)]; kernel_rfl) | (rw [if_neg (by decide +kernel)]; exact ⟨rfl, rfl⟩))
    (fun os started H enc _ => names_lifted os started H enc)
end Go.Proofs.YtibhpoikhkokiaaGreat
