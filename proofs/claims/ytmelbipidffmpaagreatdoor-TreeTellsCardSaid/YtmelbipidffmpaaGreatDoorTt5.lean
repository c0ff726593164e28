/- Bf Bg Bh Bi Bj Bk Bl Bm HwFe Bn Bo HwRow Bp Bq HwFd (joined by merge.py) -/
import Derived.Test.YtmelbipidffmpaaGreatDoorTt4
import Derived.Test.YtmelbipidffmpaaGreatDoorTt3
import Derived.ChangeReads
import Derived.ChangeSame
import Derived.Deep.Slices
import Derived.SizedLaws
import Derived.Test.YtmelbipidffmpaaGreatDoorRows
import Derived.ProofKit
import Derived.OpenShut
import Derived.LaidLaws
import Derived.Handed
import Derived.Test.YtmelbipidffmpaaGreatDoorTie
import Derived.Test.YtmelbipidffmpaaGreatDoorCards
/- Trees of blocks: what is a good tree; the program's check and the document's. -/
set_option linter.unusedVariables false
set_option linter.unusedSimpArgs false
set_option linter.unusedSectionVars false
set_option maxRecDepth 20000
namespace Go.Proofs.YtmelbipidffmpaaGreatDoor.Hw
open Go Go.Proofs
def entB (cols : Int) (e : EnM) : Bool := (((e.key.length : Nat) : Int) == cols) && (validL e.key && idB e.id)
def ordE (a b : EnM) : Int := orI (ordL a.key b.key) (cmpI a.id b.id)
def okAt (cols : Int) (l : List EnM) (i : Nat) : Bool := match l[i]? with
  | none => true
  | some e => entB cols e && (if i = 0 then true else match l[i - 1]? with
    | none => true
    | some p => decide (ordE p e < 0))
def goodE (cols : Int) (l : List EnM) : Bool := (List.range l.length).all (okAt cols l)
def Shape (n : Nat) (cols : Int) : Prop := 1 ≤ cols ∧ cols ≤ 20 ∧ 1 ≤ n ∧ n ≤ 2000
instance (n : Nat) (cols : Int) : Decidable (Shape n cols) := by unfold Shape; exact inferInstance
def start (n : Nat) : Sv := ⟨List.replicate n false, 0, []⟩
def treeV (bl : List NdM) (root cols : Int) : Option Sv :=
  if Shape bl.length cols then match visit bl root (bl.length + 1) (start bl.length) root 1 with
    | none => none
    | some S => if (S.seen.all id && goodE cols S.out) = true then some S else none
  else none
theorem range_succ_all {p : Nat → Bool} {i : Nat} : (List.range (i + 1)).all p = ((List.range i).all p && p i) := by rw [List.range_succ]; simp
theorem range_all_miss {p : Nat → Bool} {i n : Nat} (h : i < n) (hp : p i = false) : (List.range n).all p = false := by
  cases hh : (List.range n).all p with
  | false => rfl
  | true => have := List.all_eq_true.1 hh i (List.mem_range.2 h); rw [hp] at this; cases this
theorem kids_all {P : EnM → Prop} {f : Sv → Int → Option Sv} (hf : ∀ S k S', f S k = some S' → (∀ e ∈ S.out, P e) → ∀ e ∈ S'.out, P e) : ∀ {ks : List Int} {es : List EnM} {S S' : Sv}, kidsV f ks es S = some S' → (∀ e ∈ es, P e) → (∀ e ∈ S.out, P e) → ∀ e ∈ S'.out, P e
  | [], es, S, S', h, _, hS => by cases h; exact hS
  | k :: ks, es, S, S', h, he, hS => by
    unfold kidsV at h
    cases hv : f S k with
    | none => rw [hv] at h; cases h
    | some T =>
      rw [hv] at h
      have hT := hf S k T hv hS
      cases es with
      | nil => exact kids_all hf h he hT
      | cons e es =>
        refine kids_all hf h (fun e' h' => he e' (List.mem_cons_of_mem _ h')) fun e' h' => ?_
        rcases List.mem_append.1 h' with h' | h'
        · exact hT e' h'
        · obtain rfl := List.mem_singleton.1 h'
          exact he _ (List.mem_cons_self ..)
theorem visit_all {P : EnM → Prop} {bl : List NdM} {root : Int} (hb : ∀ b ∈ bl, ∀ e ∈ b.es, P e) : ∀ {m : Nat} {S S' : Sv} {i d : Int}, visit bl root m S i d = some S' → (∀ e ∈ S.out, P e) → ∀ e ∈ S'.out, P e
  | 0, S, S', i, d, h, _ => by cases h
  | m + 1, S, S', i, d, h, hS => by
    unfold visit at h
    split at h
    · cases h
    · split at h
      · rename_i b hbi hs
        have hm := List.mem_of_getElem? hbi
        split at h
        · split at h
          · cases h
            intro e he
            rcases List.mem_append.1 he with he | he
            · exact hS e he
            · exact hb _ hm e he
          · cases h
        · split at h
          · exact kids_all (fun S k S' hv => visit_all hb hv) h (hb _ hm) hS
          · cases h
      · cases h
theorem unseen_start {n : Nat} : unseen (start n).seen = n := by
  show ((List.replicate n false).filter _).length = n
  simp
section
variable {H0 H : Hp} {g gs ty : Nat} {A oA : Option Addr} {n c oc : Nat} {root cols : Int} {S : Sv} {ok : Bool} {Q : Value → Hp → Prop} {bl : List NdM}
theorem outAt (W : WkAt H0 g gs ty A n c root cols H S oA oc ok) (h : S.out.length < huge) : SlAt enC H oA S.out.length S.out := ⟨rfl, W.out.cells, h⟩
theorem seenAt (W : WkAt H0 g gs ty A n c root cols H S oA oc ok) (h : n < big) : SlAt (fun b => [Value.bool b]) H (some ⟨gs, 0, none⟩) S.seen.length S.seen :=
  ⟨rfl, .inr ⟨gs, 0, rfl, fun j v hj => by
    rw [cl_cells W.seen, Nat.zero_add]
    rw [← hj]
    congr 1
    induction S.seen with
    | nil => rfl
    | cons a r ih => simp [ih]⟩, by have := W.num; unfold big at h; unfold huge; omega⟩
theorem rd_b {H : Hp} {A : Option Addr} {n : Nat} {l : List Bool} {i : Nat} {x : Bool} (h : SlAt (fun b => [Value.bool b]) H A n l) (hi : l[i]? = some x) {K : Nat → Nat → Prop}
    (hk : ∀ p o, A = some ⟨p, o, none⟩ → cl H p (o + i) = some (.bool x) → K p o) : onPtr A K := by
  have hlen : ∀ x ∈ l, ((fun b => [Value.bool b]) x).length = 1 := fun x _ => rfl
  have hne : l ≠ [] := fun e => by subst e; simp at hi
  refine at_cells h.cells (flat_ne hlen (by omega) hne) fun p o hA hc => hk p o hA ?_
  have := hc (i * 1 + 0) _ (flat_get hlen hi (by omega))
  rw [Nat.mul_one, Nat.add_zero] at this
  exact this
theorem c89 {l : List Bool} (hA : SlAt (fun b => [Value.bool b]) H A n l) (hq : ∀ r : Int, decide (r ≥ 0) = !l.all id → Q (.int .i64 r) H) : HCalls Tryz.prog 89 [.slice A n c, .bool false] H Q := by
  refine f89.ok _ _ _ _ ?_
  unfold f89
  obtain rfl := hA.len
  refine scan hA.lt (fun i H' => H' = H ∧ (l.take i).all id = true) ⟨rfl, by simp⟩ (fun i H2 next hi hI hnext => ?_) (fun H2 next hI => ?_)
  · obtain ⟨rfl, hall⟩ := hI
    obtain ⟨x, hx⟩ := get_of hi
    dsimp only
    refine cndT (decide_eq_true (by omega)) ⟨by omega, by omega, rd_b hA hx fun q o _ kc => ⟨x, by simpa using kc, ?_⟩⟩
    cases x with
    | false =>
      refine cndT rfl (hq _ ?_)
      rw [all_miss hx rfl, decide_eq_true (by omega)]; rfl
    | true => exact cndF rfl ⟨rfl, hnext H2 ⟨rfl, by rw [all_take_succ hx, hall]; rfl⟩⟩
  · obtain ⟨rfl, hall⟩ := hI
    rw [List.take_length] at hall
    dsimp only
    refine cndF (decide_eq_false (by omega)) (hq _ ?_)
    rw [hall]; rfl
theorem c65 {l : List Bool} (hA : SlAt (fun b => [Value.bool b]) H A n l) (hq : Q (.bool (!l.all id)) H) : HCalls Tryz.prog 65 [.slice A n c, .bool false] H Q := by
  refine f65.ok _ _ _ _ ?_
  unfold f65
  exact c89 hA fun r hr => ⟨r, rfl, by rw [hr]; exact hq⟩
theorem c49 {e : EnM} (N : NullAt H) (hK : KeyAt H e) (hq : Q (.bool (entB cols e)) H) : HCalls Tryz.prog 49 [enA e, .int .i64 cols] H Q := by
  refine f49.ok _ _ _ _ _ ?_
  unfold f49
  unfold entB at hq
  refine jn_intro (fun J => J ((((e.key.length : Nat) : Int) == cols) && (validL e.key && idB e.id)) H) hq fun J hJ => cndI (fun h => c40 N hK.sl ⟨_, rfl, cndI (fun h2 => c75 ⟨_, rfl, ?_⟩) fun h2 => ?_⟩) fun h => ?_
  · have h : (((e.key.length : Nat) : Int) == cols) = true := h
    rw [h, h2] at hJ; exact hJ
  · have h : (((e.key.length : Nat) : Int) == cols) = true := h
    rw [h, h2] at hJ; exact hJ
  · have h : (((e.key.length : Nat) : Int) == cols) = false := h
    rw [h] at hJ; exact hJ
theorem c51 {a b : EnM} (ha : KeyAt H a) (hb : KeyAt H b) (hq : ∀ H', Ext H H' → Q (.int .i64 (ordE a b)) H') : HCalls Tryz.prog 51 [enA a, enA b] H Q := by
  refine f51.ok _ _ _ _ _ _ _ _ ?_
  unfold f51
  refine c41 ha.sl hb.sl fun H2 x2 => ⟨_, rfl, c77 ⟨_, rfl, fun g7 hg7 => ?_⟩⟩
  have s := fresh_sl (H := H2) (g := g7) (ty := 3) (f := inC) (l := [ordL a.key b.key, cmpI a.id b.id]) (vs := [Value.int .i64 (ordL a.key b.key), .int .i64 (cmpI a.id b.id)]) rfl (by simp [huge])
  refine c76 s ⟨_, rfl, ?_⟩
  rw [orL_two]
  exact hq _ (x2.trans (Ext.new hg7))
theorem c56 {e : EnM} (hK : KeyAt H e) (hc : cols ≤ 20) (hq : Q (.bool (entB cols e)) H) : HCalls Tryz.prog 56 [.int .i64 cols, enA e] H Q := by
  refine f56.ok _ _ _ _ _ ?_
  unfold f56
  unfold entB at hq
  refine jn_intro (fun J => J ((((e.key.length : Nat) : Int) == cols) && (validL e.key && idB e.id)) H) hq fun J hJ => cndI (fun h => c73 hK.tx hK.sl ⟨_, rfl, ?_⟩) fun h => ?_
  · have h : (((e.key.length : Nat) : Int) == cols) = true := h
    have h' := beq_iff_eq.1 h
    have hr : rowB' e.key = validL e.key := by unfold rowB'; rw [decide_eq_true (by omega)]; rfl
    rw [hr]
    rw [h, Bool.true_and] at hJ
    unfold idB at hJ
    refine cndI (fun h2 => cndI (fun h3 => ?_) fun h3 => ?_) fun h2 => ?_
    · rw [h2, h3] at hJ; exact hJ
    · rw [h2, h3] at hJ; exact hJ
    · rw [h2] at hJ; exact hJ
  · have h : (((e.key.length : Nat) : Int) == cols) = false := h
    rw [h] at hJ; exact hJ
theorem c59 {a b : EnM} (ha : KeyAt H a) (hb : KeyAt H b) (va : entB cols a = true) (vb : entB cols b = true) (hq : Q (.int .i64 (ordE a b)) H) : HCalls Tryz.prog 59 [enA a, enA b] H Q := by
  refine f59.ok _ _ _ _ _ _ _ _ ?_
  unfold f59
  unfold entB at va vb
  simp only [Bool.and_eq_true, beq_iff_eq] at va vb
  have hk := key_ord va.2.1 vb.2.1 (by omega)
  unfold ordE orI at hq
  refine c44 ha.sl hb.sl ha.tx hb.tx ⟨_, rfl, ?_⟩
  rw [hk]
  refine cndI (fun h => ?_) fun h => ?_
  · have h : ordL a.key b.key ≠ 0 := by simpa using h
    rw [if_neg (by simpa using h)] at hq; exact hq
  · have h : ordL a.key b.key = 0 := by simpa using h
    rw [h] at hq
    unfold cmpI at hq
    simp only [beq_self_eq_true, if_true] at hq
    refine cndI (fun h1 => ?_) fun h1 => cndI (fun h2 => ?_) fun h2 => ?_
    · have := of_decide_eq_true h1
      rw [if_pos this] at hq; exact hq
    · have := of_decide_eq_false h1
      have h2 := of_decide_eq_true h2
      rw [if_neg this, if_pos h2] at hq; exact hq
    · have := of_decide_eq_false h1
      have h2 := of_decide_eq_false h2
      rw [if_neg this, if_neg h2] at hq; exact hq
/-- A walker at its start. -/
theorem wk_start (hT : TrAt H A n bl) (hg3 : H gs = none) (hg5 : upd gs (.cells (List.replicate n [Value.bool false]).flatten.toArray 4 (0, 0)) H g = none) :
    WkAt H g gs ty A n c root cols (upd g (.cells [.slice A n c, .int .i64 root, .int .i64 cols, .slice (some ⟨gs, 0, none⟩) n n, .int .i64 0, .slice none 0 0, .bool true].toArray ty (0, 0)) (upd gs (.cells (List.replicate n [Value.bool false]).flatten.toArray 4 (0, 0)) H)) (start bl.length) none 0 true := by
  have hn := hT.sl.len
  have hne : g ≠ gs := fun e => by subst e; rw [upd_at] at hg5; cases hg5
  have h0 : H g = none := by rw [upd_off hne] at hg5; exact hg5
  refine ⟨(Ext.new hg3).trans (Ext.new hg5), ?_, ?_, Row.nil, h0, hg3, hne, fun ⟨o, q, h⟩ => (by cases h), fun ⟨o, q, h⟩ => (by cases h), by simp [start, hn]⟩
  · rw [upd_at]
    show _ = some (Obj.cells (wkC A n c root cols gs (List.replicate bl.length false).length 0 none 0 0 true).toArray ty (0, 0))
    rw [List.length_replicate, ← hn]; rfl
  · rw [upd_off hne.symm, upd_at]
    congr 3
    show _ = (List.replicate bl.length false).map Value.bool
    rw [← hn, List.map_replicate]
    induction n with
    | zero => rfl
    | succ n ih => simp [List.replicate_succ]
theorem c36 (N : NullAt H) (hT : TrAt H A n bl) (hF : Fewish bl)
    (h0 : treeV bl root cols = none → ∀ H', Ext H H' → Q (.tuple #[.pointer none, .bool false]) H')
    (h1 : ∀ S, treeV bl root cols = some S → S.out.length ≤ 800000 → (∀ e ∈ S.out, KeyAt H e) → ∀ g gs oA oc H', WkAt H g gs 70 A n c root cols H' S oA oc true → Q (.tuple #[.pointer (some ⟨g, 0, none⟩), .bool true]) H') :
    HCalls Tryz.prog 36 [.agg #[.slice A n c, .int .i64 root, .int .i64 cols]] H Q := by
  refine f36.ok _ _ _ _ _ ?_
  unfold f36
  have hn := hT.sl.len
  refine jn_intro (fun J => (¬ Shape bl.length cols → J true) ∧ (Shape bl.length cols → J false)) ⟨fun hs => cndT rfl (h0 (by unfold treeV; rw [if_neg hs]) H (Ext.refl _)), fun hs => cndF rfl ?_⟩ fun J hJ => ?_
  rotate_left
  · unfold Shape at hJ
    refine cndI (fun h => hJ.1 ?_) fun h => cndI (fun h2 => hJ.1 ?_) fun h2 => cndI (fun h3 => hJ.1 ?_) fun h3 => ?_
    · have := of_decide_eq_true h; omega
    · have := of_decide_eq_true h2; omega
    · have := of_decide_eq_true h3; omega
    · have := of_decide_eq_false h; have := of_decide_eq_false h2; have := of_decide_eq_false h3
      cases h4 : decide (((n : Nat) : Int) > 2000) with
      | true => have := of_decide_eq_true h4; exact hJ.1 (by omega)
      | false => have := of_decide_eq_false h4; exact hJ.2 (by omega)
  obtain ⟨hs1, hs2, hs3, hs4⟩ := id hs
  refine ⟨rfl, by omega, by omega, fun gs hg3 g hg5 => ?_⟩
  have W0 : WkAt H g gs 70 A n c root cols _ (start bl.length) none 0 true := wk_start hT hg3 hg5
  refine c64 (m := bl.length + 1) hT hF W0 (by simp [start]) (by rw [unseen_start]; omega) (by unfold pot; rw [unseen_start]; unfold cap8; simp only [start, List.length_nil]; omega) (by omega) fun H8 hfin => ⟨rfl, ?_⟩
  have hvn : visit bl root (bl.length + 1) (start bl.length) root 1 = none → treeV bl root cols = none := fun e => by unfold treeV; rw [if_pos hs, e]
  rcases hfin with ⟨S, oA, oc, W, hv⟩ | ⟨S, oA, oc, W, hv, hB⟩
  · have hst := visit_step hv
    have hot : S.out.length ≤ 800000 := by
      have := hst.2.2
      unfold pot at this
      rw [unseen_start] at this
      simp only [start, List.length_nil] at this
      omega
    have hkey : ∀ e ∈ S.out, KeyAt H e := visit_all (fun b hb => (hT.nd b hb).key) hv (fun e he => by simp [start] at he)
    have htv : treeV bl root cols = if (S.seen.all id && goodE cols S.out) = true then some S else none := by unfold treeV; rw [if_pos hs, hv]
    have hnb : n < big := by unfold big; omega
    have hob : S.out.length < huge := by unfold huge; omega
    have hol : S.out.length < 4611686018427387904 := by omega
    refine jn_intro (fun J => (S.seen.all id = false → ∀ H', WkAt H g gs 70 A n c root cols H' S oA oc true → J true H') ∧ (S.seen.all id = true → ∀ H', WkAt H g gs 70 A n c root cols H' S oA oc true → J false H')) ⟨fun ha H15 W15 => cndT rfl (h0 (by rw [htv, ha]; rfl) H15 W15.ext), fun ha H15 W15 => cndF rfl ⟨_, _, _, W15.cl 5, ?_⟩⟩ fun J hJ => ⟨true, W.cl 6, cndF rfl ⟨_, _, _, W.cl 3, c65 (seenAt W hnb) ⟨_, rfl, ?_⟩⟩⟩
    rotate_left
    · cases ha : S.seen.all id with
      | true => exact hJ.2 ha H8 W
      | false => exact hJ.1 ha H8 W
    rw [ha, Bool.true_and] at htv
    refine scan (n := S.out.length) hol (fun i H' => WkAt H g gs 70 A n c root cols H' S oA oc true ∧ (List.range i).all (okAt cols S.out) = true) ⟨W15, by simp⟩ (fun i H2 next hi hI hnext => ?_) (fun H2 next hI => ?_)
    · obtain ⟨W2, hall⟩ := hI
      obtain ⟨e, he⟩ := get_of hi
      have hek := hkey e (List.mem_of_getElem? he)
      dsimp only
      refine cndT (decide_eq_true (by omega)) ⟨by omega, by omega, rd_en (outAt W2 hob) he fun q o _ k1 k2 => ⟨_, _, _, by simpa using k1, _, by simpa using k2, ?_⟩⟩
      refine jn_intro (fun J => (okAt cols S.out i = false → ∀ H', WkAt H g gs 70 A n c root cols H' S oA oc true → J true H') ∧ (okAt cols S.out i = true → ∀ H', WkAt H g gs 70 A n c root cols H' S oA oc true → J false H')) ⟨fun ho H' W' => cndT rfl (h0 ?_ H' W'.ext), fun ho H' W' => cndF rfl ⟨rfl, hnext H' ⟨W', by rw [range_succ_all, hall, ho]; rfl⟩⟩⟩ fun J hJ => ?_
      · rw [htv]
        unfold goodE
        rw [range_all_miss hi ho]; rfl
      have hok : okAt cols S.out i = (entB cols e && (if i = 0 then true else match S.out[i - 1]? with
        | none => true
        | some p => decide (ordE p e < 0))) := by unfold okAt; rw [he]
      refine c49 (N.ext W2.ext) (hek.ext W2.ext) ⟨_, rfl, cndI (fun h => hJ.1 ?_ H2 W2) fun h => ?_⟩
      · rw [hok]; rw [Bool.not_eq_true'] at h; rw [h]; rfl
      rw [Bool.not_eq_false'] at h
      rw [h, Bool.true_and] at hok
      refine cndI (fun hp => ?_) fun hp => hJ.2 ?_ H2 W2
      · have hp := of_decide_eq_true hp
        rw [if_neg (by omega)] at hok
        have ew : IntKind.i64.wrap ((i : Int) - 1) = ((i - 1 : Nat) : Int) := by rw [wrap_id (by omega) (by omega)]; omega
        obtain ⟨p, hpp⟩ := get_of (l := S.out) (i := i - 1) (by omega)
        rw [hpp] at hok
        have hpk := hkey p (List.mem_of_getElem? hpp)
        rw [ew]
        refine ⟨_, _, _, W2.cl 5, by omega, by omega, rd_en (outAt W2 hob) hpp fun q o _ k1 k2 => ⟨_, _, _, by simpa using k1, _, by simpa using k2, c51 (hpk.ext W2.ext) (hek.ext W2.ext) fun H32 x32 => ⟨_, rfl, ?_⟩⟩⟩
        have hok : okAt cols S.out i = decide (ordE p e < 0) := hok
        by_cases hlt : ordE p e < 0
        · rw [decide_eq_false (by omega)]
          exact hJ.2 (by rw [hok, decide_eq_true hlt]) H32 (W2.more x32)
        · rw [decide_eq_true (by omega)]
          exact hJ.1 (by rw [hok, decide_eq_false hlt]) H32 (W2.more x32)
      · have hp := of_decide_eq_false hp
        rw [hok, if_pos (by omega)]
    · obtain ⟨W2, hall⟩ := hI
      dsimp only
      refine cndF (decide_eq_false (by omega)) (h1 S ?_ hot hkey g gs oA oc H2 W2)
      rw [htv]
      exact if_pos hall
  · refine jn_intro (fun J => J true H8) (cndT rfl (h0 (hvn hv) H8 W.ext)) fun J hJ => ⟨false, W.cl 6, cndT rfl hJ⟩
end
end Go.Proofs.YtmelbipidffmpaaGreatDoor.Hw

/- Trees of blocks: the document's check; what leans on both. -/
set_option linter.unusedVariables false
set_option linter.unusedSimpArgs false
set_option linter.unusedSectionVars false
set_option maxRecDepth 20000
namespace Go.Proofs.YtmelbipidffmpaaGreatDoor.Hw
open Go Go.Proofs
theorem okAt_ent {cols : Int} {l : List EnM} {i : Nat} {e : EnM} (he : l[i]? = some e) (h : okAt cols l i = true) : entB cols e = true := by
  unfold okAt at h
  rw [he] at h
  exact (Bool.and_eq_true _ _ ▸ h : _ ∧ _).1
section
variable {H0 H : Hp} {g gs ty : Nat} {A oA : Option Addr} {n c oc : Nat} {root cols : Int} {S : Sv} {ok : Bool} {Q : Value → Hp → Prop} {bl : List NdM}
theorem c38 (hT : TrAt H A n bl) (hF : Fewish bl)
    (h0 : treeV bl root cols = none → ∀ A' n' c' x H', Ext H H' → Q (.tuple #[.slice A' n' c', .int .i64 x, .bool false]) H')
    (h1 : ∀ S, treeV bl root cols = some S → S.out.length ≤ 800000 → (∀ e ∈ S.out, KeyAt H e) → ∀ oA oc H', Ext H H' → Row H H' oA S.out.length oc 2 (S.out.flatMap enC) → Q (.tuple #[.slice oA S.out.length oc, .int .i64 S.leaf, .bool true]) H') :
    HCalls Tryz.prog 38 [.agg #[.slice A n c, .int .i64 root, .int .i64 cols]] H Q := by
  refine f38.ok _ _ _ _ _ ?_
  unfold f38
  have hn := hT.sl.len
  refine jn_intro (fun J => (¬ Shape bl.length cols → J true) ∧ (Shape bl.length cols → J false)) ⟨fun hs => cndT rfl (h0 (by unfold treeV; rw [if_neg hs]) _ _ _ _ H (Ext.refl _)), fun hs => cndF rfl ?_⟩ fun J hJ => ?_
  rotate_left
  · unfold Shape at hJ
    refine cndI (fun h => hJ.1 ?_) fun h => cndI (fun h2 => hJ.1 ?_) fun h2 => cndI (fun h3 => hJ.1 ?_) fun h3 => ?_
    · have := of_decide_eq_true h; omega
    · have := of_decide_eq_true h2; omega
    · have := of_decide_eq_true h3; omega
    · have := of_decide_eq_false h; have := of_decide_eq_false h2; have := of_decide_eq_false h3
      cases h4 : decide (((n : Nat) : Int) > 2000) with
      | true => have := of_decide_eq_true h4; exact hJ.1 (by omega)
      | false => have := of_decide_eq_false h4; exact hJ.2 (by omega)
  obtain ⟨hs1, hs2, hs3, hs4⟩ := id hs
  refine ⟨rfl, by omega, by omega, fun gs hg3 g hg5 => ?_⟩
  have W0 : WkAt H g gs 107 A n c root cols _ (start bl.length) none 0 true := wk_start hT hg3 hg5
  refine c67 (m := bl.length + 1) hT hF W0 (by simp [start]) (by rw [unseen_start]; omega) (by unfold pot; rw [unseen_start]; unfold cap8; simp only [start, List.length_nil]; omega) (by omega) fun H8 hfin => ⟨rfl, ?_⟩
  obtain ⟨S, oA, oc, ok0, W, hot, hv⟩ : ∃ S oA oc ok0, WkAt H g gs 107 A n c root cols H8 S oA oc ok0 ∧ S.out.length ≤ 4399900000000 ∧ visit bl root (bl.length + 1) (start bl.length) root 1 = (if ok0 = true then some S else none) := by
    rcases hfin with ⟨S, oA, oc, W, hv⟩ | ⟨S, oA, oc, W, hv, hB⟩
    · have := (visit_step hv).2.2
      unfold pot at this
      rw [unseen_start] at this
      simp only [start, List.length_nil] at this
      exact ⟨S, oA, oc, true, W, by omega, hv⟩
    · exact ⟨S, oA, oc, false, W, by omega, hv⟩
  have hnb : n < big := by unfold big; omega
  have hob : S.out.length < huge := by unfold huge; omega
  have hnum := W.num
  have hkey : ok0 = true → ∀ e ∈ S.out, KeyAt H e := fun h => visit_all (fun b hb => (hT.nd b hb).key) (by rw [hv, if_pos h]) (fun e he => by simp [start] at he)
  have htv : treeV bl root cols = if (ok0 && S.seen.all id && goodE cols S.out) = true then some S else none := by
    unfold treeV
    rw [if_pos hs, hv]
    cases ok0 with
    | true => rw [Bool.true_and]; rfl
    | false => rfl
  refine ⟨_, _, _, W.cl 3, ?_⟩
  refine scan (n := S.seen.length) (by omega) (fun i H' => WkAt H g gs 107 A n c root cols H' S oA oc (ok0 && (S.seen.take i).all id)) (by simpa using W) (fun i H2 next hi hI hnext => ?_) (fun H2 next hI => ?_)
  · obtain ⟨x, hx⟩ := get_of hi
    dsimp only
    refine cndT (decide_eq_true (by omega)) (jn_intro (fun J => ∀ H', WkAt H g gs 107 A n c root cols H' S oA oc (ok0 && (S.seen.take (i + 1)).all id) → J H') (fun H' W' => ⟨rfl, hnext H' W'⟩) fun J hJ => ⟨by omega, by omega, rd_b (seenAt hI hnb) hx fun q o _ kc => ⟨x, by simpa using kc, _, hI.cl 6, ?_⟩⟩)
    rw [all_take_succ hx, ← Bool.and_assoc] at hJ
    refine cndI (fun h => hI.setOk fun H' W' => hJ H' ?_) fun h => hI.setOk fun H' W' => hJ H' ?_
    · rw [h]; exact W'
    · rw [h]; exact W'
  · rw [List.take_length] at hI
    dsimp only
    obtain ⟨ok1, hok1⟩ : ∃ ok1, ok1 = (ok0 && S.seen.all id) := ⟨_, rfl⟩
    rw [← hok1] at hI
    rw [← hok1] at htv
    have h10 : ok1 = true → ok0 = true := fun h => by rw [h] at hok1; exact (Bool.and_eq_true _ _ ▸ hok1.symm : _ ∧ _).1
    refine cndF (decide_eq_false (by omega)) ⟨_, _, _, hI.cl 5, ?_⟩
    refine scan (n := S.out.length) (by omega) (fun i H' => WkAt H g gs 107 A n c root cols H' S oA oc (ok1 && (List.range i).all (okAt cols S.out))) (by simpa using hI) (fun i H3 next hi hI hnext => ?_) (fun H3 next hI => ?_)
    · obtain ⟨e, he⟩ := get_of hi
      dsimp only
      refine cndT (decide_eq_true (by omega)) (jn_intro (fun J => ∀ H', WkAt H g gs 107 A n c root cols H' S oA oc (ok1 && (List.range (i + 1)).all (okAt cols S.out)) → J H') (fun H' W' => ⟨rfl, hnext H' W'⟩) fun J hJ => ⟨by omega, by omega, rd_en (outAt hI hob) he fun q o _ k1 k2 => ⟨_, _, _, by simpa using k1, _, by simpa using k2, _, hI.cl 6, ?_⟩⟩)
      rw [range_succ_all, ← Bool.and_assoc] at hJ
      refine cndI (fun h => ?_) fun h => hI.setOk fun H' W' => hJ H' (by rw [h]; exact W')
      rw [h] at hJ hI
      rw [Bool.and_eq_true] at h
      have hkk := hkey (h10 h.1)
      have hek := hkk e (List.mem_of_getElem? he)
      have hok : okAt cols S.out i = (entB cols e && (if i = 0 then true else match S.out[i - 1]? with
        | none => true
        | some p => decide (ordE p e < 0))) := by unfold okAt; rw [he] <;> rfl
      refine c56 (hek.ext hI.ext) hs2 ⟨_, rfl, cndI (fun he1 => cndI (fun hz => ?_) fun hz => ?_) fun he1 => ?_⟩
      · have hz := beq_iff_eq.1 hz
        refine hI.setOk fun H' W' => hJ H' ?_
        rw [hok, he1, if_pos (show i = 0 by omega)]; exact W'
      · have hz : ¬ (i : Int) = 0 := by simpa using hz
        have ew : IntKind.i64.wrap ((i : Int) - 1) = ((i - 1 : Nat) : Int) := by rw [wrap_id (by omega) (by omega)]; omega
        obtain ⟨p, hpp⟩ := get_of (l := S.out) (i := i - 1) (by omega)
        rw [if_neg (by omega), hpp, he1] at hok
        have hpk := hkk p (List.mem_of_getElem? hpp)
        have hpo := okAt_ent hpp (List.all_eq_true.1 h.2 (i - 1) (List.mem_range.2 (by omega)))
        rw [ew]
        refine ⟨_, _, _, hI.cl 5, by omega, by omega, rd_en (outAt hI hob) hpp fun q o _ k1 k2 => ⟨_, _, _, by simpa using k1, _, by simpa using k2, c59 (hpk.ext hI.ext) (hek.ext hI.ext) hpo he1 ⟨_, rfl, hI.setOk fun H' W' => hJ H' ?_⟩⟩⟩
        rw [hok]; exact W'
      · refine hI.setOk fun H' W' => hJ H' ?_
        rw [hok, he1]; exact W'
    · dsimp only
      refine cndF (decide_eq_false (by omega)) ⟨_, _, _, hI.cl 5, _, hI.cl 4, _, hI.cl 6, ?_⟩
      change WkAt H g gs 107 A n c root cols H3 S oA oc (ok1 && goodE cols S.out) at hI
      show Q (.tuple #[.slice oA S.out.length oc, .int .i64 S.leaf, .bool (ok1 && goodE cols S.out)]) H3
      cases hg : ok1 && goodE cols S.out with
      | true =>
        rw [hg] at htv
        rw [Bool.and_eq_true] at hg
        have := (visit_step (hv.trans (if_pos (h10 hg.1)))).2.2
        unfold pot at this
        rw [unseen_start] at this
        simp only [start, List.length_nil] at this
        exact h1 S htv (by omega) (hkey (h10 hg.1)) oA oc H3 hI.ext hI.out
      | false =>
        rw [hg] at htv
        exact h0 htv _ _ _ _ H3 hI.ext
theorem c13 (N : NullAt H) (hT : TrAt H A n bl) (hF : Fewish bl) (hq : ∀ H', Ext H H' → Q (.bool (treeV bl root cols).isSome) H') : HCalls Tryz.prog 13 [.agg #[.slice A n c, .int .i64 root, .int .i64 cols]] H Q := by
  refine f13.ok _ _ _ _ _ ?_
  unfold f13
  refine c36 N hT hF (fun h H' hx => ⟨_, _, rfl, ?_⟩) fun S h hl hk g gs oA oc H' W => ⟨_, _, rfl, ?_⟩
  · rw [h] at hq; exact hq H' hx
  · rw [h] at hq; exact hq H' W.ext
theorem c14 (hT : TrAt H A n bl) (hF : Fewish bl) (hq : ∀ H', Ext H H' → Q (.bool (treeV bl root cols).isSome) H') : HCalls Tryz.prog 14 [.agg #[.slice A n c, .int .i64 root, .int .i64 cols]] H Q := by
  refine f14.ok _ _ _ _ _ ?_
  unfold f14
  refine c38 hT hF (fun h A' n' c' x H' hx => ⟨_, _, _, _, _, rfl, ?_⟩) fun S h hl hk oA oc H' hx hr => ⟨_, _, _, _, _, rfl, ?_⟩
  · rw [h] at hq; exact hq H' hx
  · rw [h] at hq; exact hq H' hx
/-- Depth, of both. -/
def depT (t : Option Sv) : Int × Int := match t with | none => (0, 2) | some S => (S.leaf, 0)
theorem c16 (N : NullAt H) (hT : TrAt H A n bl) (hF : Fewish bl) (hq : ∀ H', Ext H H' → Q (.tuple #[.int .i64 (depT (treeV bl root cols)).1, .int .i64 (depT (treeV bl root cols)).2]) H') : HCalls Tryz.prog 16 [.agg #[.slice A n c, .int .i64 root, .int .i64 cols]] H Q := by
  refine f16.ok _ _ _ _ _ ?_
  unfold f16
  refine c36 N hT hF (fun h H' hx => ⟨_, _, rfl, cndT rfl ?_⟩) fun S h hl hk g gs oA oc H' W => ⟨_, _, rfl, cndF rfl ⟨_, W.cl 4, ?_⟩⟩
  · rw [h] at hq; exact hq H' hx
  · rw [h] at hq; exact hq H' W.ext
theorem c17 (hT : TrAt H A n bl) (hF : Fewish bl) (hq : ∀ H', Ext H H' → Q (.tuple #[.int .i64 (depT (treeV bl root cols)).1, .int .i64 (depT (treeV bl root cols)).2]) H') : HCalls Tryz.prog 17 [.agg #[.slice A n c, .int .i64 root, .int .i64 cols]] H Q := by
  refine f17.ok _ _ _ _ _ ?_
  unfold f17
  refine c38 hT hF (fun h A' n' c' x H' hx => ⟨_, _, _, _, _, rfl, cndT rfl ?_⟩) fun S h hl hk oA oc H' hx hr => ⟨_, _, _, _, _, rfl, cndF rfl ?_⟩
  · rw [h] at hq; exact hq H' hx
  · rw [h] at hq; exact hq H' hx
/-- Entries in a slice, by what they say alone. -/
structure EsAt (H : Hp) (A : Option Addr) (n : Nat) (l : List EnM) : Prop where
  sl : SlAt enC H A n l
  key : ∀ e ∈ l, KeyAt H e
theorem EsAt.ext {H H' : Hp} {A : Option Addr} {n : Nat} {l : List EnM} (h : EsAt H A n l) (hx : Ext H H') : EsAt H' A n l := ⟨h.sl.ext hx, fun e he => (h.key e he).ext hx⟩
def sayE (e : EnM) : List Vl × Int := (e.key, e.id)
end
end Go.Proofs.YtmelbipidffmpaaGreatDoor.Hw

/- Trees of blocks: a good walk tells a tree; plain. -/
set_option linter.unusedVariables false
set_option linter.unusedSimpArgs false
set_option linter.unusedSectionVars false
set_option maxRecDepth 20000
namespace Go.Proofs.YtmelbipidffmpaaGreatDoor.Hw
open Go Go.Proofs
inductive BT where
  | mk (es : List EnM) (ks : List BT)
def BT.es : BT → List EnM | .mk es _ => es
def BT.ks : BT → List BT | .mk _ ks => ks
def inter {α : Type} : List (List α) → List α → List α
  | [], _ => []
  | k :: ks, [] => k ++ inter ks []
  | k :: ks, e :: es => k ++ e :: inter ks es
def flatB : Nat → BT → List EnM
  | 0, t => t.es
  | h + 1, t => inter (t.ks.map (flatB h)) t.es
/-- The tree that lies at a block. -/
def AtB (bl : List NdM) : Nat → Int → BT → Prop
  | 0, i, t => 0 ≤ i ∧ t.ks = [] ∧ ∃ b, bl[i.toNat]? = some b ∧ b.es = t.es ∧ b.ks = []
  | h + 1, i, t => 0 ≤ i ∧ ∃ b, bl[i.toNat]? = some b ∧ b.es = t.es ∧ b.ks.length = t.ks.length ∧ ∀ (k : Nat) (x : Int) (u : BT), b.ks[k]? = some x → t.ks[k]? = some u → AtB bl h x u
/-- All leaves are so deep, all blocks so full. -/
def FullB (root : Bool) : Nat → BT → Prop
  | 0, t => t.ks = [] ∧ t.es.length ≤ 8 ∧ (root = true ∨ 3 ≤ t.es.length)
  | h + 1, t => t.ks.length = t.es.length + 1 ∧ t.es.length ≤ 8 ∧ (root = true ∨ 3 ≤ t.es.length) ∧ 1 ≤ t.es.length ∧ ∀ u ∈ t.ks, FullB false h u
def KidOk (bl : List NdM) (D : Int) (m : Nat) (S : Sv) (x : Int) (T : Sv) : Prop :=
  ∃ h t, h < m ∧ AtB bl h x t ∧ FullB false h t ∧ T.out = S.out ++ flatB h t ∧ T.leaf = D + h ∧ (S.leaf = 0 ∨ S.leaf = T.leaf)
theorem kids_tree {bl : List NdM} {D : Int} {m : Nat} (hD : 1 ≤ D) {f : Sv → Int → Option Sv} {r : Nat} (hf : ∀ S x T, f S x = some T → S.seen[r]? = some true → T.seen[r]? = some true ∧ KidOk bl D m S x T) : ∀ {ks : List Int} {es : List EnM} {S T : Sv}, kidsV f ks es S = some T → S.seen[r]? = some true → ks.length = es.length + 1 →
    T.seen[r]? = some true ∧ ∃ (h : Nat) (ts : List BT), h < m ∧ ts.length = ks.length ∧ (∀ (k : Nat) (x : Int) (u : BT), ks[k]? = some x → ts[k]? = some u → AtB bl h x u) ∧ (∀ u ∈ ts, FullB false h u) ∧ T.out = S.out ++ inter (ts.map (flatB h)) es ∧ T.leaf = D + h ∧ (S.leaf = 0 ∨ S.leaf = T.leaf)
  | [], es, S, T, h, _, hl => by simp at hl
  | k :: ks, es, S, T, h, hs, hl => by
    unfold kidsV at h
    cases hv : f S k with
    | none => rw [hv] at h; cases h
    | some U =>
      rw [hv] at h
      obtain ⟨hsU, g, u, a0, a1, a2, a3, a4, a5⟩ := hf S k U hv hs
      cases es with
      | nil =>
        have hks : ks = [] := List.eq_nil_of_length_eq_zero (by simpa using hl)
        subst hks
        cases h
        refine ⟨hsU, g, [u], a0, rfl, fun j x v hx hu => ?_, fun v hv => ?_, by simp [inter, a3], a4, a5⟩
        · cases j with
          | zero => cases hx; cases hu; exact a1
          | succ j => simp at hx
        · obtain rfl := List.mem_singleton.1 hv; exact a2
      | cons e es =>
        obtain ⟨hsT, g', ts, b0, b1, b2, b3, b4, b5, b6⟩ := kids_tree hD hf h hsU (by simpa using hl)
        have b6 : U.leaf = 0 ∨ U.leaf = T.leaf := b6
        have hg : g' = g := by omega
        subst hg
        refine ⟨hsT, g', u :: ts, b0, by simp [b1], fun j x v hx hu => ?_, fun v hv => ?_, ?_, b5, by omega⟩
        · cases j with
          | zero => cases hx; cases hu; exact a1
          | succ j => exact b2 j x v (by simpa using hx) (by simpa using hu)
        · rcases List.mem_cons.1 hv with rfl | hv
          · exact a2
          · exact b3 v hv
        · have b4 : T.out = U.out ++ [e] ++ inter (ts.map (flatB g')) es := b4
          rw [b4, a3]
          simp [inter, List.append_assoc]
theorem visit_tree {bl : List NdM} {root : Int} : ∀ {m : Nat} {S T : Sv} {i d : Int}, visit bl root m S i d = some T → 1 ≤ d → (i = root ∨ S.seen[root.toNat]? = some true) → 0 ≤ root →
    T.seen[root.toNat]? = some true ∧ ∃ h t, h < m ∧ AtB bl h i t ∧ FullB (decide (i = root)) h t ∧ T.out = S.out ++ flatB h t ∧ T.leaf = d + h ∧ (S.leaf = 0 ∨ S.leaf = T.leaf)
  | 0, S, T, i, d, h, _, _, _ => by cases h
  | m + 1, S, T, i, d, h, hd, hr, hr0 => by
    unfold visit at h
    split at h
    · cases h
    · rename_i hi0
      split at h
      · rename_i b hb hs
        have hseen : (S.seen.set i.toNat true)[root.toNat]? = some true := by
          rw [List.getElem?_set]
          by_cases e : i.toNat = root.toNat
          · rw [if_pos e, if_pos (List.getElem?_eq_some_iff.1 hs).1]
          · rw [if_neg e]
            rcases hr with rfl | hr
            · exact absurd rfl e
            · exact hr
        split at h
        · rename_i hk0
          split at h
          · rename_i hl
            cases h
            unfold leafOk at hl
            simp only [Bool.and_eq_true, Bool.or_eq_true, decide_eq_true_eq, beq_iff_eq] at hl
            refine ⟨hseen, 0, .mk b.es [], by omega, ⟨by omega, rfl, b, hb, rfl, List.eq_nil_of_length_eq_zero hk0⟩, ⟨rfl, hl.1, ?_⟩, rfl, by simp, hl.2.2⟩
            rcases hl.2.1 with e | e
            · exact .inl (decide_eq_true e)
            · exact .inr e
          · cases h
        · split at h
          · rename_i hn
            unfold nodeOk at hn
            simp only [Bool.and_eq_true, Bool.or_eq_true, decide_eq_true_eq, beq_iff_eq] at hn
            obtain ⟨hsT, g, ts, c0, c1, c2, c3, c4, c5, c6⟩ := kids_tree (bl := bl) (D := d + 1) (m := m) (r := root.toNat) (by omega) (fun S' x T' hv hs' => by
              obtain ⟨q1, h', t', q0, q2, q3, q4, q5, q6⟩ := visit_tree hv (by omega) (.inr hs') hr0
              refine ⟨q1, h', t', q0, q2, ?_, q4, q5, q6⟩
              by_cases e : x = root
              · exfalso
                subst e
                cases m with
                | zero => cases hv
                | succ m =>
                  rw [visit_miss (.inr (.inr hs'))] at hv; cases hv
              · rw [decide_eq_false e] at q3; exact q3) h hseen hn.2.2.2
            refine ⟨hsT, g + 1, .mk b.es ts, by omega, ⟨by omega, b, hb, rfl, c1.symm, c2⟩, ⟨by show ts.length = _; rw [c1]; exact hn.2.2.2, hn.1, ?_, hn.2.2.1, c3⟩, c4, by rw [c5]; omega, c6⟩
            rcases hn.2.1 with e | e
            · exact .inl (decide_eq_true e)
            · exact .inr e
          · cases h
      · cases h
/-- A good tree. -/
theorem tree_of {bl : List NdM} {root cols : Int} {S : Sv} (h : treeV bl root cols = some S) :
    Shape bl.length cols ∧ goodE cols S.out = true ∧ ∃ h t, AtB bl h root t ∧ FullB true h t ∧ S.out = flatB h t ∧ S.leaf = 1 + h ∧ h ≤ 2000 := by
  unfold treeV at h
  split at h
  · rename_i hs
    split at h
    · cases h
    · rename_i T hv
      split at h
      · rename_i hg
        cases h
        rw [Bool.and_eq_true] at hg
        have h0 : 0 ≤ root := by
          refine Classical.byContradiction fun hn => ?_
          rw [visit_miss (.inl (by omega))] at hv; cases hv
        obtain ⟨_, g, t, a0, a1, a2, a3, a4, _⟩ := visit_tree hv (by omega) (.inl rfl) h0
        rw [decide_eq_true rfl] at a2
        exact ⟨hs, hg.2, g, t, a1, a2, by simpa [start] using a3, a4, by have := hs.2.2.2; omega⟩
      · cases h
  · cases h
theorem inter_mem {α : Type} {x : α} : ∀ {ks : List (List α)} {es : List α}, ks.length = es.length + 1 → (x ∈ inter ks es ↔ x ∈ es ∨ ∃ k ∈ ks, x ∈ k)
  | [], es, h => by simp at h
  | k :: ks, [], h => by
    have : ks = [] := List.eq_nil_of_length_eq_zero (by simpa using h)
    subst this
    simp [inter]
  | k :: ks, e :: es, h => by
    unfold inter
    rw [List.mem_append, List.mem_cons, inter_mem (ks := ks) (es := es) (by simpa using h)]
    simp only [List.mem_cons, exists_eq_or_imp]
    constructor
    · rintro (h | rfl | h | h)
      · exact .inr (.inl h)
      · exact .inl (.inl rfl)
      · exact .inl (.inr h)
      · exact .inr (.inr h)
    · rintro ((rfl | h) | h | h)
      · exact .inr (.inl rfl)
      · exact .inr (.inr (.inl h))
      · exact .inl h
      · exact .inr (.inr (.inr h))
end Go.Proofs.YtmelbipidffmpaaGreatDoor.Hw

/- Trees: rows of entries; All; comparing; Few. -/
set_option linter.unusedVariables false
set_option linter.unusedSimpArgs false
set_option linter.unusedSectionVars false
set_option maxRecDepth 20000
namespace Go.Proofs.YtmelbipidffmpaaGreatDoor.Hw
open Go Go.Proofs
theorem KeyAt.stay {H H' : Hp} {e : EnM} (h : KeyAt H e) (hk : e.key ≠ [] → ∀ b, rowB e.A b → H b ≠ none → H' b = H b) : KeyAt H' e := by
  by_cases h0 : e.key = []
  · refine ⟨⟨by rw [h0], .inl (by rw [h0]; rfl), by rw [h0]; simp [huge]⟩, h.cap, h.tx⟩
  · exact ⟨h.sl.stay (hk h0), h.cap, h.tx⟩
/-- Entries on a block of their own, their keys elsewhere. -/
structure RowE (H0 H : Hp) (A : Option Addr) (c : Nat) (l : List EnM) : Prop where
  row : Row H0 H A l.length c 2 (l.flatMap enC)
  key : ∀ e ∈ l, KeyAt H e
  sep : ∀ e ∈ l, e.key ≠ [] → ∀ b, rowB e.A b → ¬ rowB A b
theorem RowE.nil {H0 H : Hp} : RowE H0 H none 0 [] := ⟨Row.nil, fun e he => (by cases he), fun e he => (by cases he)⟩
theorem RowE.more {H0 H H' : Hp} {A : Option Addr} {c : Nat} {l : List EnM} (R : RowE H0 H A c l) (hx : Ext H H') : RowE H0 H' A c l := ⟨Row.keep R.row fun b hb => ext_at hx (R.row.lt hb).1, fun e he => (R.key e he).ext hx, R.sep⟩
theorem RowE.at {H0 H : Hp} {A : Option Addr} {c : Nat} {l : List EnM} (R : RowE H0 H A c l) (h : l.length < huge) : EsAt H A l.length l := ⟨⟨rfl, R.row.cells, h⟩, R.key⟩
theorem RowE.base {H0 H1 H : Hp} {A : Option Addr} {c : Nat} {l : List EnM} (R : RowE H1 H A c l) (hx : Ext H0 H1) : RowE H0 H A c l := ⟨R.row.base hx, R.key, R.sep⟩
theorem RowE.push {H0 H : Hp} {A : Option Addr} {c g : Nat} {l : List EnM} {e : EnM} {K : Option Addr → Nat → Nat → Hp → Prop} (R : RowE H0 H A c l) (hx : Ext H0 H) (hs : l.length < big) (he : KeyAt H e) (hsep : e.key ≠ [] → ∀ b, rowB e.A b → ¬ rowB A b) (hg : H g = none)
    (hk : ∀ A' c' H', RowE H0 H' A' c' (l ++ [e]) → Ext H0 H' → (∀ b, H' b ≠ H b → rowB A b ∨ H b = none) → (∀ b, rowB A' b → rowB A b ∨ H b = none) → K A' (l ++ [e]).length c' H') :
    appendF (upd g (.cells (enC e).toArray 46 (0, 0)) H) 46 2 32 A l.length c (some ⟨g, 0, none⟩) 1 K := by
  refine Row.push1 enC_len enC_one (by omega) R.row hx hs hg fun A' c' H' R' x' ch nw => hk A' c' H' ⟨R', fun a ha => ?_, fun a ha h0 b hb hA => ?_⟩ x' ch nw
  · have hka : KeyAt H a ∧ (a.key ≠ [] → ∀ b, rowB a.A b → ¬ rowB A b) := by
      rcases List.mem_append.1 ha with ha | ha
      · exact ⟨R.key a ha, R.sep a ha⟩
      · obtain rfl := List.mem_singleton.1 ha; exact ⟨he, hsep⟩
    refine hka.1.stay fun h0 b hb hn => Classical.byContradiction fun hne => ?_
    rcases ch b hne with h | h
    · exact hka.2 h0 b hb h
    · exact hn h
  · have hka : KeyAt H a ∧ (a.key ≠ [] → ∀ b, rowB a.A b → ¬ rowB A b) := by
      rcases List.mem_append.1 ha with ha | ha
      · exact ⟨R.key a ha, R.sep a ha⟩
      · obtain rfl := List.mem_singleton.1 ha; exact ⟨he, hsep⟩
    rcases nw b hA with h | h
    · exact hka.2 h0 b hb h
    · exact hka.1.sl.live vlC_len (by omega) h0 hb h
/-- A key lies on blocks that there are. -/
theorem KeyAt.live {H : Hp} {e : EnM} (h : KeyAt H e) (h0 : e.key ≠ []) {b : Nat} (hb : rowB e.A b) : H b ≠ none := h.sl.live vlC_len (by omega) h0 hb
section
variable {H0 H : Hp} {g gs ty : Nat} {A oA : Option Addr} {n c oc : Nat} {root cols : Int} {S : Sv} {ok : Bool} {Q : Value → Hp → Prop} {bl : List NdM}
theorem c90n {l : List Vl} {k : Nat} (hA : SlAt vlC H A n l) (hl : l.length < big) (hq : ∀ A' c' H', Ext H H' → SlAt vlC H' A' n l → n ≤ c' → (∀ b, rowB A' b → H b = none) → Q (.slice A' n c') H') : HCalls Tryz.prog 90 [.slice A n k] H Q := by
  refine f90.ok _ _ _ ?_
  unfold f90
  have hn := hA.len
  refine cndI (fun h => ?_) fun h g1 hg1 => ?_
  · have hA0 : A = none := by cases A with | none => rfl | some a => cases h
    have hl0 : l = [] := by
      rcases hA.cells with h' | ⟨b, o, e, _⟩
      · cases l with
        | nil => rfl
        | cons x r => rw [List.flatMap_cons] at h'; exact absurd h' (by simp [vlC])
      · rw [hA0] at e; cases e
    subst hl0
    have hn0 : n = 0 := hn
    subst hn0
    subst hA0
    exact hq none 0 H (Ext.refl _) hA (Nat.le_refl _) fun b ⟨o, q, h⟩ => by cases h
  · have x1 : Ext H (upd g1 (Obj.cells [].toArray 64 (0, 0)) H) := Ext.new hg1
    refine appendF_slx (l := []) vlC_len vlC_one (by omega) (fresh_sl (l := []) rfl (by simp [huge])) (hA.ext x1) (by omega) (by simp) (by omega) fun A' c' H' x' s' hc nw => ?_
    rw [Nat.zero_add] at s' hc
    rw [List.nil_append] at s'
    have := hq A' c' H' (x1.trans x') s' hc fun b hb => by
      rcases nw b hb with ⟨o, q, h⟩ | h
      · cases h; exact hg1
      · exact x1.none h
    rw [Nat.zero_add]
    exact this
theorem c66n {l : List Vl} {k : Nat} (hA : SlAt vlC H A n l) (hl : l.length < big) (hq : ∀ A' c' H', Ext H H' → SlAt vlC H' A' n l → n ≤ c' → (∀ b, rowB A' b → H b = none) → Q (.slice A' n c') H') : HCalls Tryz.prog 66 [.slice A n k] H Q := by
  refine f66.ok _ _ _ ?_
  unfold f66
  exact c90n hA hl fun A' c' H' x s hc nw => ⟨_, _, _, rfl, hq A' c' H' x s hc nw⟩
theorem c37n {e : EnM} (hK : KeyAt H e) (hl : e.key.length < big) (hq : ∀ e' H', Ext H H' → sayE e' = sayE e → KeyAt H' e' → (∀ b, rowB e'.A b → H b = none) → Q (enA e') H') : HCalls Tryz.prog 37 [enA e] H Q := by
  refine f37.ok _ _ _ _ ?_
  unfold f37
  refine c66n hK.sl hl fun A' c' H' x s hc nw => ⟨_, _, _, rfl, hq ⟨A', c', e.key, e.id⟩ H' x rfl ⟨s, hc, hK.tx⟩ nw⟩
/-- What All says. -/
def allT (t : Option Sv) : List (List Vl × Int) × Int := match t with | none => ([], 2) | some S => (S.out.map sayE, 0)
theorem good_ent {cols : Int} {l : List EnM} (h : goodE cols l = true) : ∀ e ∈ l, entB cols e = true := fun e he => by
  obtain ⟨i, hi⟩ := List.mem_iff_getElem?.1 he
  have hlt := (List.getElem?_eq_some_iff.1 hi).1
  exact okAt_ent hi (List.all_eq_true.1 h i (List.mem_range.2 hlt))
theorem ent_len {cols : Int} {e : EnM} (h : entB cols e = true) : ((e.key.length : Nat) : Int) = cols ∧ validL e.key = true := by
  unfold entB at h
  simp only [Bool.and_eq_true, beq_iff_eq] at h
  exact ⟨h.1, h.2.1⟩
theorem c11 (N : NullAt H) (hT : TrAt H A n bl) (hF : Fewish bl) (hq : ∀ A' c' l' H', Ext H H' → RowE H H' A' c' l' → l'.length ≤ 800000 → l'.map sayE = (allT (treeV bl root cols)).1 → Q (.tuple #[.slice A' l'.length c', .int .i64 (allT (treeV bl root cols)).2]) H') : HCalls Tryz.prog 11 [.agg #[.slice A n c, .int .i64 root, .int .i64 cols]] H Q := by
  refine f11.ok _ _ _ _ _ ?_
  unfold f11
  refine c36 N hT hF (fun h H' hx => ⟨_, _, rfl, cndT rfl ?_⟩) fun S h hl hk g gs oA oc H2 W => ⟨_, _, rfl, cndF rfl ⟨_, _, _, W.cl 5, ?_⟩⟩
  · rw [h] at hq
    exact hq none 0 [] H' hx RowE.nil (by simp) rfl
  have hW := W.ext
  rw [h] at hq
  have hob : S.out.length < huge := by unfold huge; omega
  obtain ⟨hs, hgd, _⟩ := tree_of h
  have hent := good_ent hgd
  have hso := outAt W hob
  refine loop_to S.out.length (fun i st H' => ∃ A' c' l', st = (((A', l'.length, c'), ((i : Int), ())), ()) ∧ Ext H2 H' ∧ RowE H2 H' A' c' l' ∧ l'.map sayE = (S.out.take i).map sayE) ⟨none, 0, [], rfl, Ext.refl _, RowE.nil, rfl⟩ ?_
  rintro i st H8 next hi ⟨A', c', l', rfl, x8, R, hm⟩ hnext
  have hll : l'.length = i := by have := congrArg List.length hm; simp at this; omega
  dsimp only
  refine cndI (fun hlt => ?_) fun hlt => ?_
  · have hlt := of_decide_eq_true hlt
    obtain ⟨e, he⟩ := get_of (l := S.out) (i := i) (by omega)
    have hmem := List.mem_of_getElem? he
    have hke := (hk e hmem).ext (hW.trans x8)
    have hlen := (ent_len (hent e hmem)).1
    have hc := hs.2.1
    refine ⟨by omega, by omega, rd_en (hso.ext x8) he fun q o _ k1 k2 => ⟨_, _, _, by simpa using k1, _, by simpa using k2, c37n hke (by unfold big; omega) fun e' H14 x14 hsay hk' nw => ⟨_, _, _, _, rfl, fun g17 hg17 => ?_⟩⟩⟩
    refine (R.more x14).push (x8.trans x14) (by unfold big; omega) hk' (fun _ b hb hA => (R.row.lt hA).1 (nw b hb)) hg17 fun A19 c19 H20 R20 x20 _ _ => ⟨rfl, ?_⟩
    refine hnext _ _ (by omega) ⟨A19, c19, l' ++ [e'], ?_, x20, R20, ?_⟩
    · rw [wrap_id (by omega) (by omega)]; rfl
    · rw [List.map_append, hm, List.take_add_one, he]
      simp [hsay]
  · have hlt := of_decide_eq_false hlt
    have : i = S.out.length := by omega
    rw [this, List.take_length] at hm
    exact hq A' c' l' H8 (hW.trans x8) (R.base hW) (by omega) hm
theorem c12 (hT : TrAt H A n bl) (hF : Fewish bl) (hq : ∀ A' c' l' H', Ext H H' → RowE H H' A' c' l' → l'.length ≤ 800000 → l'.map sayE = (allT (treeV bl root cols)).1 → Q (.tuple #[.slice A' l'.length c', .int .i64 (allT (treeV bl root cols)).2]) H') : HCalls Tryz.prog 12 [.agg #[.slice A n c, .int .i64 root, .int .i64 cols]] H Q := by
  refine f12.ok _ _ _ _ _ ?_
  unfold f12
  refine c38 hT hF (fun h A' n' c' x H' hx => ⟨_, _, _, _, _, rfl, cndT rfl ?_⟩) fun S h hl hk oA oc H' hx hr => ⟨_, _, _, _, _, rfl, cndF rfl ?_⟩
  · rw [h] at hq
    exact hq none 0 [] H' hx RowE.nil (by simp) rfl
  · rw [h] at hq
    exact hq oA oc S.out H' hx ⟨hr, fun e he => (hk e he).ext hx, fun e he h0 b hb hA => (hk e he).live h0 hb (hr.lt hA).2⟩ hl rfl
theorem c39 {A B : Option Addr} {n m ca cb : Nat} {x : List Vl} (hA : SlAt vlC H A n x) (hB : SlAt vlC H B m x) (hq : Q (.bool true) H) : HCalls Tryz.prog 39 [.slice A n ca, .slice B m cb] H Q := by
  refine f39.ok _ _ _ _ _ _ ?_
  unfold f39
  obtain rfl := hA.len
  obtain rfl := hB.len
  refine cndF (by simp) (scan hA.lt (fun i H' => H' = H) rfl (fun i H2 next hi hI hnext => ?_) (fun H2 next hI => ?_))
  · obtain rfl := hI
    obtain ⟨v, hv⟩ := get_of hi
    dsimp only
    refine cndT (decide_eq_true (by omega)) ⟨by omega, by omega, rd_vl hA hv fun q o _ k1 k2 k3 => ⟨_, by simpa using k1, _, by simpa using k2, _, by simpa using k3, by omega, by omega, rd_vl hB hv fun q o _ k1 k2 k3 => ⟨_, by simpa using k1, _, by simpa using k2, _, by simpa using k3, cndF ?_ ⟨rfl, hnext H2 rfl⟩⟩⟩⟩
    simp
  · obtain rfl := hI
    dsimp only
    exact cndF (decide_eq_false (by omega)) hq
theorem c15 {A B : Option Addr} {n m ca cb : Nat} {x y : List EnM} (hA : EsAt H A n x) (hB : EsAt H B m y) (he : x.map sayE = y.map sayE) (hq : Q (.bool true) H) : HCalls Tryz.prog 15 [.slice A n ca, .slice B m cb] H Q := by
  refine f15.ok _ _ _ _ _ _ ?_
  unfold f15
  obtain rfl := hA.sl.len
  obtain rfl := hB.sl.len
  have hlen : x.length = y.length := by have := congrArg List.length he; simpa using this
  refine cndF (by rw [hlen]; simp) (scan hA.sl.lt (fun i H' => H' = H) rfl (fun i H2 next hi hI hnext => ?_) (fun H2 next hI => ?_))
  · obtain rfl := hI
    obtain ⟨a, ha⟩ := get_of hi
    obtain ⟨b, hb⟩ := get_of (l := y) (i := i) (by omega)
    have hab : sayE a = sayE b := by
      have := congrArg (fun l => l[i]?) he
      simp only [List.getElem?_map, ha, hb, Option.map_some, Option.some.injEq] at this
      exact this
    have hk : a.key = b.key := congrArg Prod.fst hab
    have hid : a.id = b.id := congrArg Prod.snd hab
    dsimp only
    refine cndT (decide_eq_true (by omega)) (jn_intro (fun J => J false H2) (cndF rfl ⟨rfl, hnext H2 rfl⟩) fun J hJ => ⟨by omega, by omega, rd_en hA.sl ha fun q o _ k1 k2 => ⟨_, by simpa using k2, by omega, by omega, rd_en hB.sl hb fun q' o' _ k1' k2' => ⟨_, by simpa using k2', cndF (by rw [hid]; simp) ⟨by omega, by omega, rd_en hA.sl ha fun q o _ k1 k2 => ⟨_, _, _, by simpa using k1, by omega, by omega, rd_en hB.sl hb fun q' o' _ k1' k2' => ⟨_, _, _, by simpa using k1', ?_⟩⟩⟩⟩⟩⟩)
    have h1 := (hA.key a (List.mem_of_getElem? ha)).sl
    have h2 := (hB.key b (List.mem_of_getElem? hb)).sl
    rw [← hk] at h2 ⊢
    exact c39 h1 h2 ⟨_, rfl, hJ⟩
  · obtain rfl := hI
    dsimp only
    exact cndF (decide_eq_false (by omega)) hq
/-- Few: whatever it says. -/
theorem c9 (hT : TrAt H A n bl) (hq : ∀ b, Q (.bool b) H) : HCalls Tryz.prog 9 [.agg #[.slice A n c, .int .i64 root, .int .i64 cols]] H Q := by
  refine f9.ok _ _ _ _ _ ?_
  unfold f9
  obtain rfl := hT.sl.len
  have hsm := hT.sl.lt
  refine loop_to bl.length (fun i st H' => H' = H ∧ ∃ s : Int, st = ((s, ((i : Int), ())), ())) ⟨rfl, _, rfl⟩ ?_
  rintro i st H2 next hi ⟨rfl, s, rfl⟩ hnext
  dsimp only
  refine jn_intro (fun J => (i < bl.length → J true) ∧ J false) ⟨fun hlt => cndT rfl ?_, cndF rfl (hq _)⟩ fun J hJ => cndI (fun h => ?_) fun h => hJ.2
  · obtain ⟨b, hb⟩ := get_of hlt
    have hnd := hT.nd b (List.mem_of_getElem? hb)
    have hesm := hnd.es.lt
    refine ⟨by omega, by omega, rd_nd hT.sl hb fun q o _ k1 k2 => ⟨_, _, _, by simpa using k2, by omega, by omega, rd_nd hT.sl hb fun q o _ k1 k2 => ⟨_, _, _, by simpa using k1, ?_⟩⟩⟩
    refine loop_to b.es.length (fun k st H' => H' = H2 ∧ ∃ s : Int, st = ((s, ((k : Int), ())), ())) ⟨rfl, _, rfl⟩ ?_
    rintro k st H11 next12 hk ⟨rfl, s', rfl⟩ hnext12
    dsimp only
    refine cndI (fun h => ?_) fun h => ⟨rfl, hnext _ _ hlt ⟨rfl, s', ?_⟩⟩
    · have h := of_decide_eq_true h
      obtain ⟨e, he⟩ := get_of (l := b.es) (i := k) (by omega)
      refine ⟨by omega, by omega, rd_en hnd.es he fun q o _ k1 k2 => ⟨_, _, _, by simpa using k1, _, by simpa using k2, rfl, hnext12 _ _ (by omega) ⟨rfl, IntKind.i64.wrap (s' + IntKind.i64.wrap (1 + ((e.key.length : Nat) : Int))), ?_⟩⟩⟩
      rw [wrap_id (x := (k : Int) + 1) (by omega) (by omega)]; rfl
    · rw [wrap_id (x := (i : Int) + 1) (by omega) (by omega)]; rfl
  · have h := of_decide_eq_true h
    cases h4 : decide (s < 4000) with
    | true => exact hJ.1 (by omega)
    | false => exact hJ.2
end
end Go.Proofs.YtmelbipidffmpaaGreatDoor.Hw

/- Trees: the order; Touched. -/
set_option linter.unusedVariables false
set_option linter.unusedSimpArgs false
set_option linter.unusedSectionVars false
set_option maxRecDepth 20000
namespace Go.Proofs.YtmelbipidffmpaaGreatDoor.Hw
open Go Go.Proofs
/-! ### orders -/
structure CmpOk {α : Type} (c : α → α → Int) : Prop where
  anti : ∀ a b, c b a = - c a b
  tr : ∀ a b d, c a b ≤ 0 → c b d ≤ 0 → c a d ≤ 0
theorem CmpOk.self {α : Type} {c : α → α → Int} (h : CmpOk c) (a : α) : c a a = 0 := by have := h.anti a a; omega
theorem CmpOk.lt_of {α : Type} {c : α → α → Int} (h : CmpOk c) {a b d : α} (h1 : c a b < 0) (h2 : c b d ≤ 0) : c a d < 0 := by
  refine Classical.byContradiction fun hn => ?_
  have h3 : c d a ≤ 0 := by have := h.anti a d; omega
  have h4 := h.tr b d a h2 h3
  have := h.anti a b
  omega
theorem CmpOk.lt_of' {α : Type} {c : α → α → Int} (h : CmpOk c) {a b d : α} (h1 : c a b ≤ 0) (h2 : c b d < 0) : c a d < 0 := by
  refine Classical.byContradiction fun hn => ?_
  have h3 : c d a ≤ 0 := by have := h.anti a d; omega
  have h4 := h.tr d a b h3 h1
  have := h.anti b d
  omega
theorem cmpI_le {x y : Int} : cmpI x y ≤ 0 ↔ x ≤ y := by
  unfold cmpI
  by_cases h : x < y
  · rw [if_pos h]; omega
  · rw [if_neg h]
    by_cases h2 : x > y
    · rw [if_pos h2]; omega
    · rw [if_neg h2]; omega
theorem cmpI_val (x y : Int) : (x < y ∧ cmpI x y = -1) ∨ (x = y ∧ cmpI x y = 0) ∨ (x > y ∧ cmpI x y = 1) := by
  unfold cmpI
  by_cases h : x < y
  · exact .inl ⟨h, if_pos h⟩
  · by_cases h2 : x > y
    · exact .inr (.inr ⟨h2, by rw [if_neg h, if_pos h2]⟩)
    · exact .inr (.inl ⟨by omega, by rw [if_neg h, if_neg h2]⟩)
theorem cmpI_ok : CmpOk cmpI := ⟨fun a b => by
  rcases cmpI_val a b with ⟨h, e⟩ | ⟨h, e⟩ | ⟨h, e⟩ <;> rcases cmpI_val b a with ⟨h', e'⟩ | ⟨h', e'⟩ | ⟨h', e'⟩ <;> omega, fun a b d h1 h2 => by
  rw [cmpI_le] at *; omega⟩
theorem bl_irr : ∀ l : List UInt8, Op.bytesLess l l = false
  | [] => rfl
  | x :: r => by unfold Op.bytesLess; simp [bl_irr r]
theorem bl_tot : ∀ a b : List UInt8, Op.bytesLess a b = false → Op.bytesLess b a = false → a = b
  | [], [], _, _ => rfl
  | [], _ :: _, h, _ => by simp [Op.bytesLess] at h
  | _ :: _, [], _, h => by simp [Op.bytesLess] at h
  | x :: a, y :: b, h1, h2 => by
    unfold Op.bytesLess at h1 h2
    by_cases h : x = y
    · subst h
      simp at h1 h2
      rw [bl_tot a b h1 h2]
    · exfalso
      simp only [Bool.or_eq_false_iff, decide_eq_false_iff_not] at h1 h2
      apply h
      have a1 := h1.1
      have a2 := h2.1
      exact UInt8.le_antisymm (UInt8.not_lt.1 a2) (UInt8.not_lt.1 a1)
theorem bl_tr : ∀ a b d : List UInt8, Op.bytesLess a b = true → Op.bytesLess b d = true → Op.bytesLess a d = true
  | [], _, [], h1, h2 => by cases ‹List UInt8› <;> simp [Op.bytesLess] at h2
  | [], _, _ :: _, _, _ => by simp [Op.bytesLess]
  | _ :: _, [], _, h1, _ => by simp [Op.bytesLess] at h1
  | _ :: _, _ :: _, [], _, h2 => by simp [Op.bytesLess] at h2
  | x :: a, y :: b, z :: d, h1, h2 => by
    unfold Op.bytesLess at h1 h2 ⊢
    simp only [Bool.or_eq_true, decide_eq_true_eq, Bool.and_eq_true, beq_iff_eq] at h1 h2 ⊢
    rcases h1 with h1 | ⟨rfl, h1⟩
    · rcases h2 with h2 | ⟨rfl, h2⟩
      · exact .inl (UInt8.lt_trans h1 h2)
      · exact .inl h1
    · rcases h2 with h2 | ⟨rfl, h2⟩
      · exact .inl h2
      · exact .inr ⟨rfl, bl_tr a b d h1 h2⟩
theorem cmpS_val (a b : ByteArray) : (lessS a b = true ∧ lessS b a = false ∧ cmpS a b = -1) ∨ (lessS a b = false ∧ lessS b a = false ∧ a.toList = b.toList ∧ cmpS a b = 0) ∨ (lessS a b = false ∧ lessS b a = true ∧ cmpS a b = 1) := by
  unfold cmpS lessS
  cases h1 : Op.bytesLess a.toList b.toList with
  | true =>
    cases h2 : Op.bytesLess b.toList a.toList with
    | true => have := bl_tr _ _ _ h1 h2; rw [bl_irr] at this; cases this
    | false => exact .inl ⟨rfl, rfl, rfl⟩
  | false =>
    cases h2 : Op.bytesLess b.toList a.toList with
    | true =>
      refine .inr (.inr ⟨rfl, rfl, ?_⟩)
      have : (a.toList == b.toList) = false := by
        rw [beq_eq_false_iff_ne]
        intro e
        rw [e, bl_irr] at h2; cases h2
      rw [this]; rfl
    | false =>
      have e := bl_tot _ _ h1 h2
      refine .inr (.inl ⟨rfl, rfl, e, ?_⟩)
      rw [e]; simp
theorem cmpS_ok : CmpOk cmpS := ⟨fun a b => by
  rcases cmpS_val a b with ⟨h1, h2, h3⟩ | ⟨h1, h2, h4, h3⟩ | ⟨h1, h2, h3⟩ <;> rcases cmpS_val b a with ⟨g1, g2, g3⟩ | ⟨g1, g2, g4, g3⟩ | ⟨g1, g2, g3⟩ <;> (first | omega | (rw [h1] at g2; rw [h2] at g1; first | exact absurd g1 (by decide) | exact absurd g2 (by decide))), fun a b d h1 h2 => by
  rcases cmpS_val a d with ⟨g1, g2, g3⟩ | ⟨g1, g2, g4, g3⟩ | ⟨g1, g2, g3⟩
  · omega
  · omega
  · exfalso
    rcases cmpS_val a b with ⟨a1, a2, a3⟩ | ⟨a1, a2, a4, a3⟩ | ⟨a1, a2, a3⟩
    · rcases cmpS_val b d with ⟨b1, b2, b3⟩ | ⟨b1, b2, b4, b3⟩ | ⟨b1, b2, b3⟩
      · have := bl_tr _ _ _ a1 b1
        unfold lessS at g1
        rw [this] at g1; cases g1
      · unfold lessS at g1 a1
        rw [b4] at a1; rw [a1] at g1; cases g1
      · omega
    · rcases cmpS_val b d with ⟨b1, b2, b3⟩ | ⟨b1, b2, b4, b3⟩ | ⟨b1, b2, b3⟩
      · unfold lessS at g1 b1
        rw [← a4] at b1; rw [b1] at g1; cases g1
      · unfold lessS at g2
        rw [a4, b4, bl_irr] at g2; cases g2
      · omega
    · omega⟩
theorem or_ok {α : Type} {c d : α → α → Int} (hc : CmpOk c) (hd : CmpOk d) : CmpOk fun a b => orI (c a b) (d a b) := ⟨fun a b => by
  have h1 := hc.anti a b
  have h2 := hd.anti a b
  unfold orI
  rw [h1]
  by_cases h : c a b = 0
  · rw [h]; simpa using h2
  · rw [if_neg (by simpa using h), if_neg (by simpa using h)], fun a b e h1 h2 => by
  unfold orI at h1 h2 ⊢
  by_cases ha : c a b = 0
  · rw [ha] at h1
    simp only [beq_self_eq_true, if_true] at h1
    by_cases hb : c b e = 0
    · rw [hb] at h2
      simp only [beq_self_eq_true, if_true] at h2
      have h3 : c a e = 0 := by
        have q1 := hc.tr a b e (by omega) (by omega)
        have q2 := hc.tr e b a (by have := hc.anti b e; omega) (by have := hc.anti a b; omega)
        have := hc.anti a e
        omega
      rw [h3]
      simpa using hd.tr a b e h1 h2
    · rw [if_neg (by simpa using hb)] at h2
      have h3 := hc.lt_of' (a := a) (b := b) (d := e) (by omega) (by omega)
      rw [if_neg (by simp; omega)]; omega
  · rw [if_neg (by simpa using ha)] at h1
    have h4 : c b e ≤ 0 := by
      by_cases hb : c b e = 0
      · omega
      · rw [if_neg (by simpa using hb)] at h2; exact h2
    have h3 := hc.lt_of (a := a) (b := b) (d := e) (by omega) h4
    rw [if_neg (by simp; omega)]; omega⟩
theorem pull_ok {α β : Type} {c : β → β → Int} (hc : CmpOk c) (f : α → β) : CmpOk fun a b => c (f a) (f b) := ⟨fun a b => hc.anti _ _, fun a b d => hc.tr _ _ _⟩
def kdC (a b : Int) : Int := if a == b then 0 else if a == 0 then 1 else if b == 0 then -1 else cmpI a b
theorem kdC_ok : CmpOk kdC := by
  have h : ∀ a b, kdC a b = orI (cmpI (if a = 0 then 1 else 0) (if b = 0 then 1 else 0)) (cmpI a b) := fun a b => by
    unfold kdC orI cmpI
    simp only [beq_iff_eq]
    by_cases ha : a = 0 <;> by_cases hb : b = 0 <;> simp [ha, hb]
    · intro h; exact absurd h.symm hb
    · by_cases e : a = b
      · simp [e]
      · simp [e]
  have : kdC = fun a b => orI (cmpI (if a = 0 then 1 else 0) (if b = 0 then 1 else 0)) (cmpI a b) := by funext a b; exact h a b
  rw [this]
  exact or_ok (pull_ok cmpI_ok fun a => if a = 0 then 1 else 0) cmpI_ok
theorem ordV_eq (a b : Vl) : ordV a b = orI (kdC a.kind b.kind) (orI (cmpI a.num b.num) (cmpS a.txt b.txt)) := by
  unfold ordV kdC
  by_cases h : a.kind = b.kind
  · have h' : (a.kind == b.kind) = true := by simpa using h
    rw [h']; rfl
  · have h' : (a.kind == b.kind) = false := by simpa using h
    have hc : (cmpI a.kind b.kind == 0) = false := by
      rw [beq_eq_false_iff_ne]; exact fun e => h (cmpI_eq.1 e)
    rw [h']
    cases h0 : a.kind == 0 with
    | true => rfl
    | false =>
      cases h1 : b.kind == 0 with
      | true => rfl
      | false =>
        show cmpI a.kind b.kind = if cmpI a.kind b.kind == 0 then _ else cmpI a.kind b.kind
        rw [hc]; rfl
theorem ordV_ok : CmpOk ordV := by
  have : ordV = fun a b => orI (kdC a.kind b.kind) (orI (cmpI a.num b.num) (cmpS a.txt b.txt)) := by funext a b; exact ordV_eq a b
  rw [this]
  exact or_ok (pull_ok kdC_ok Vl.kind) (or_ok (pull_ok cmpI_ok Vl.num) (pull_ok cmpS_ok Vl.txt))
theorem ordL_cons (a b : Vl) (x y : List Vl) : ordL (a :: x) (b :: y) = orI (ordV a b) (ordL x y) := by
  unfold orI
  show (if ordV a b != 0 then ordV a b else ordL x y) = _
  by_cases h : ordV a b = 0
  · rw [h]; rfl
  · rw [if_pos (by simpa using h), if_neg (by simpa using h)]
theorem ordL_anti : ∀ a b, ordL b a = - ordL a b
  | [], [] => rfl
  | [], _ :: _ => rfl
  | _ :: _, [] => rfl
  | a :: x, b :: y => by
    rw [ordL_cons, ordL_cons, ordV_ok.anti a b, ordL_anti x y]
    unfold orI
    by_cases h : ordV a b = 0
    · rw [h]; rfl
    · rw [if_neg (by simpa using h), if_neg (by simpa using h)]
theorem ordL_tr : ∀ a b d, ordL a b ≤ 0 → ordL b d ≤ 0 → ordL a d ≤ 0
  | [], _, [], _, _ => by show (0 : Int) ≤ 0; omega
  | [], _, _ :: _, _, _ => by show (-1 : Int) ≤ 0; omega
  | _ :: _, [], _, h, _ => by have h : (1 : Int) ≤ 0 := h; omega
  | _ :: _, _ :: _, [], _, h => by have h : (1 : Int) ≤ 0 := h; omega
  | a :: x, b :: y, d :: z, h1, h2 => by
    rw [ordL_cons] at h1 h2 ⊢
    have ih := ordL_tr x y z
    unfold orI at h1 h2 ⊢
    have hc := ordV_ok
    by_cases ha : ordV a b = 0
    · rw [ha] at h1
      simp only [beq_self_eq_true, if_true] at h1
      by_cases hb : ordV b d = 0
      · rw [hb] at h2
        simp only [beq_self_eq_true, if_true] at h2
        have h3 : ordV a d = 0 := by
          have q1 := hc.tr a b d (by omega) (by omega)
          have q2 := hc.tr d b a (by have := hc.anti b d; omega) (by have := hc.anti a b; omega)
          have := hc.anti a d
          omega
        rw [h3]
        simpa using ih h1 h2
      · rw [if_neg (by simpa using hb)] at h2
        have h3 := hc.lt_of' (a := a) (b := b) (d := d) (by omega) (by omega)
        rw [if_neg (by simp; omega)]; omega
    · rw [if_neg (by simpa using ha)] at h1
      have h4 : ordV b d ≤ 0 := by
        by_cases hb : ordV b d = 0
        · omega
        · rw [if_neg (by simpa using hb)] at h2; exact h2
      have h3 := hc.lt_of (a := a) (b := b) (d := d) (by omega) h4
      rw [if_neg (by simp; omega)]; omega
theorem ordL_ok : CmpOk ordL := ⟨ordL_anti, ordL_tr⟩
theorem ordE_ok : CmpOk ordE := or_ok (pull_ok ordL_ok EnM.key) (pull_ok cmpI_ok EnM.id)
/-- A key, against the beginning of an entry's. -/
def cmpK (e : EnM) (key : List Vl) : Int := ordL (e.key.take key.length) key
theorem keyR_take : ∀ {x y : List Vl}, keyR x y = keyR (x.take y.length) y
  | [], [] => rfl
  | [], _ :: _ => rfl
  | _ :: _, [] => rfl
  | a :: x, b :: y => by
    rw [List.length_cons, List.take_succ_cons]
    show (if valR a b != 0 then valR a b else keyR x y) = if valR a b != 0 then valR a b else keyR (x.take y.length) y
    rw [← keyR_take]
theorem keyK {e : EnM} {key : List Vl} (h1 : validL e.key = true) (h2 : validL key = true) (hl : key.length ≤ e.key.length) : keyR e.key key = cmpK e key := by
  unfold cmpK
  rw [keyR_take, key_ord _ h2 (by rw [List.length_take]; omega)]
  unfold validL at h1 ⊢
  rw [List.all_eq_true] at h1 ⊢
  exact fun x hx => h1 x (List.mem_of_mem_take hx)
end Go.Proofs.YtmelbipidffmpaaGreatDoor.Hw

/- Trees: Touched, of both. -/
set_option linter.unusedVariables false
set_option linter.unusedSimpArgs false
set_option linter.unusedSectionVars false
set_option maxRecDepth 20000
namespace Go.Proofs.YtmelbipidffmpaaGreatDoor.Hw
open Go Go.Proofs
def atN (es : List EnM) (key : List Vl) : Nat := (es.takeWhile fun e => decide (cmpK e key < 0)).length
def hitB (es : List EnM) (key : List Vl) : Bool := match es[atN es key]? with | some e => cmpK e key == 0 | none => false
def touchB (key : List Vl) : Nat → BT → Int → Int
  | 0, _, n => n
  | h + 1, t, n => if hitB t.es key = true then n else match t.ks[atN t.es key]? with | some u => touchB key h u (n + 1) | none => n
def keyG (lo cols : Int) (key : List Vl) : Bool := decide (lo ≤ ((key.length : Nat) : Int)) && (decide (((key.length : Nat) : Int) ≤ cols) && validL key)
def touT (lo cols : Int) (key : List Vl) (h : Nat) (t : BT) : Int × Int := if keyG lo cols key = true then (touchB key h t 1, 0) else (0, 2)
theorem at_is {es : List EnM} {key : List Vl} {k : Nat} (h1 : ∀ e ∈ es.take k, cmpK e key < 0) (h2 : ∀ e, es[k]? = some e → ¬ cmpK e key < 0) (hk : k ≤ es.length) : atN es key = k := by
  unfold atN
  conv => lhs; rw [← List.take_append_drop k es]
  rw [List.takeWhile_append_of_pos (fun e he => decide_eq_true (h1 e he))]
  rw [List.length_append, List.length_take]
  have : (es.drop k).takeWhile (fun e => decide (cmpK e key < 0)) = [] := by
    cases hd : es.drop k with
    | nil => rfl
    | cons e r =>
      have he : es[k]? = some e := by
        have := congrArg (fun l => l[0]?) hd
        simpa using this
      rw [List.takeWhile_cons, decide_eq_false (h2 e he)]; rfl
  rw [this]
  simp; omega
/-- A block, opened. -/
theorem at_open {bl : List NdM} {g : Nat} {i : Int} {u : BT} {r : Bool} {F : List EnM} (hA : AtB bl g i u) (hF : FullB r g u) (hin : ∀ e ∈ flatB g u, e ∈ F) : 0 ≤ i ∧ ∃ b, bl[i.toNat]? = some b ∧ b.es = u.es ∧ b.es.length ≤ 8 ∧ (∀ e ∈ b.es, e ∈ F) ∧
    ((g = 0 ∧ b.ks = []) ∨ ∃ g', g = g' + 1 ∧ b.ks.length = b.es.length + 1 ∧ ∀ (k : Nat) (x : Int), b.ks[k]? = some x → ∃ v, u.ks[k]? = some v ∧ AtB bl g' x v ∧ FullB false g' v ∧ ∀ e ∈ flatB g' v, e ∈ F) := by
  cases g with
  | zero =>
    obtain ⟨h0, hk, b, hb, he, hbk⟩ := hA
    exact ⟨h0, b, hb, he, by rw [he]; exact hF.2.1, fun e h => hin e (by rw [he] at h; exact h), .inl ⟨rfl, hbk⟩⟩
  | succ g =>
    obtain ⟨h0, b, hb, he, hl, hkid⟩ := hA
    obtain ⟨f1, f2, f3, f4, f5⟩ := hF
    have hmem : ∀ x, x ∈ flatB (g + 1) u ↔ x ∈ u.es ∨ ∃ k ∈ u.ks.map (flatB g), x ∈ k := fun x => inter_mem (by rw [List.length_map]; exact f1)
    refine ⟨h0, b, hb, he, by rw [he]; exact f2, fun e h => hin e ((hmem e).2 (.inl (by rw [← he]; exact h))), .inr ⟨g, rfl, by rw [hl, f1, he], fun k x hx => ?_⟩⟩
    obtain ⟨v, hv⟩ := get_of (l := u.ks) (i := k) (by have := (List.getElem?_eq_some_iff.1 hx).1; omega)
    have hvm := List.mem_of_getElem? hv
    exact ⟨v, hv, hkid k x v hx hv, f5 v hvm, fun e h => hin e ((hmem e).2 (.inr ⟨_, List.mem_map_of_mem hvm, h⟩))⟩
section
variable {H0 H : Hp} {A oA kA : Option Addr} {n c oc kn kc : Nat} {root cols : Int} {S : Sv} {Q : Value → Hp → Prop} {bl : List NdM} {key : List Vl}
theorem c42 {e : EnM} {k : Nat} (hK : KeyAt H e) (hk : k ≤ e.key.length) (hq : ∀ A' c', SlAt vlC H A' k (e.key.take k) → Q (.slice A' k c') H) : HCalls Tryz.prog 42 [enA e, .int .i64 ((k : Nat) : Int)] H Q := by
  refine f42.ok _ _ _ _ _ ?_
  unfold f42
  have h := SlAt.cut vlC_len (p := 0) (m := k) hK.sl hK.cap (by omega)
  have hc := hK.cap
  refine ⟨by omega, by omega, ?_⟩
  exact hq _ _ h
theorem c43 {lo hi : Int} (hT : TxS key) (hS : SlAt vlC H kA kn key) (hc : hi ≤ 20) (hq : Q (.bool (keyG lo hi key)) H) : HCalls Tryz.prog 43 [.slice kA kn kc, .int .i64 lo, .int .i64 hi] H Q := by
  refine f43.ok _ _ _ _ _ ?_
  unfold f43
  obtain rfl := hS.len
  unfold keyG at hq
  refine jn_intro (fun J => J (decide (lo ≤ ((key.length : Nat) : Int)) && (decide (((key.length : Nat) : Int) ≤ hi) && validL key)) H) hq fun J hJ => cndI (fun h => cndI (fun h2 => c73 hT hS ⟨_, rfl, ?_⟩) fun h2 => ?_) fun h => ?_
  · have h : decide (lo ≤ ((key.length : Nat) : Int)) = true := h
    have h2' := of_decide_eq_true h2
    have hr : rowB' key = validL key := by unfold rowB'; rw [decide_eq_true (by omega)]; rfl
    rw [hr]
    rw [h, h2] at hJ; exact hJ
  · have h : decide (lo ≤ ((key.length : Nat) : Int)) = true := h
    rw [h, h2] at hJ; exact hJ
  · have h : decide (lo ≤ ((key.length : Nat) : Int)) = false := h
    rw [h] at hJ; exact hJ
theorem c18 (N : NullAt H) (hT : TrAt H A n bl) (hF : Fewish bl) (hS : SlAt vlC H kA kn key) {h : Nat} {t : BT} (hv : treeV bl root cols = some S) (hA : AtB bl h root t) (hFu : FullB true h t) (ho : S.out = flatB h t) (hh : h ≤ 2000)
    (hq : ∀ H', Ext H H' → Q (.tuple #[.int .i64 (touT 1 cols key h t).1, .int .i64 (touT 1 cols key h t).2]) H') : HCalls Tryz.prog 18 [.agg #[.slice A n c, .int .i64 root, .int .i64 cols], .slice kA kn kc] H Q := by
  refine f18.ok _ _ _ _ _ _ _ _ ?_
  unfold f18
  obtain ⟨hs, hgd, _⟩ := tree_of hv
  have hent := good_ent hgd
  have hn := hT.sl.len
  have hsm := hT.sl.small
  unfold huge at hsm
  obtain rfl := hS.len
  obtain ⟨hs1, hs2, hs3, hs4⟩ := id hs
  unfold touT at hq
  refine jn_intro (fun J => (keyG 1 cols key = false → ∀ H', Ext H H' → J true H') ∧ (keyG 1 cols key = true → ∀ H', Ext H H' → J false H')) ⟨fun hg H8 x8 => cndT rfl (by rw [if_neg (by rw [hg]; decide)] at hq; exact hq H8 x8), fun hg H8 x8 => cndF rfl ?_⟩ fun J hJ => ?_
  rotate_left
  · unfold keyG at hJ
    refine c13 N hT hF fun H2 x2 => ⟨_, rfl, ?_⟩
    rw [hv]
    refine cndF rfl (cndI (fun h1 => ?_) fun h1 => cndI (fun h2 => ?_) fun h2 => c40 (N.ext x2) (hS.ext x2) ⟨_, rfl, ?_⟩)
    · have h1 := of_decide_eq_true h1
      exact hJ.1 (by rw [decide_eq_false (by omega)]; rfl) H2 x2
    · have h1 := of_decide_eq_false h1
      have h2 := of_decide_eq_true h2
      exact hJ.1 (by rw [decide_eq_true (by omega), decide_eq_false (by omega)]; rfl) H2 x2
    · have h1 := of_decide_eq_false h1
      have h2 := of_decide_eq_false h2
      rw [decide_eq_true (by omega), decide_eq_true (by omega)] at hJ
      cases hk : validL key with
      | true => exact hJ.2 (by rw [hk]; rfl) H2 x2
      | false => exact hJ.1 (by rw [hk]; rfl) H2 x2
  rw [if_pos hg] at hq
  have hkc : ((key.length : Nat) : Int) ≤ cols := by
    unfold keyG at hg
    simp only [Bool.and_eq_true, decide_eq_true_eq] at hg
    exact hg.2.1
  refine loop_to h (fun j st H' => Ext H H' ∧ ∃ i u g r, g + j = h ∧ AtB bl g i u ∧ FullB r g u ∧ (∀ e ∈ flatB g u, e ∈ S.out) ∧ st = ((i, (1 + (j : Int), ())), ()) ∧ touchB key h t 1 = touchB key g u (1 + (j : Int))) ⟨x8, root, t, h, true, rfl, hA, hFu, fun e he => by rw [ho]; exact he, rfl, rfl⟩ ?_
  rintro j st H11 next hj ⟨x11, i, u, g, r, hgj, hA', hF', hin, rfl, htou⟩ hnext
  obtain ⟨hi0, b, hb, hbe, hb8, hbin, hkids⟩ := at_open hA' hF' hin
  have hnd := hT.nd b (List.mem_of_getElem? hb)
  have hil := (List.getElem?_eq_some_iff.1 hb).1
  have hksm := hnd.ks.small
  unfold huge at hksm
  dsimp only
  refine ⟨by omega, by omega, rd_nd (hT.ext x11).sl hb fun q o _ k1 k2 => ⟨_, _, _, k1, _, _, _, k2, ?_⟩⟩
  refine loop_to b.es.length (fun k st H' => Ext H11 H' ∧ st = (((k : Int), ()), ()) ∧ ∀ e ∈ b.es.take k, cmpK e key < 0) ⟨Ext.refl _, rfl, by simp⟩ ?_
  rintro k st H17 next18 hk ⟨x17, rfl, hall⟩ hnext18
  dsimp only
  have hek : ∀ e ∈ b.es, key.length ≤ e.key.length := fun e he => by have := (ent_len (hent e (hbin e he))).1; omega
  refine jn_intro (fun J => (∀ e H', b.es[k]? = some e → cmpK e key < 0 → Ext H11 H' → J true H') ∧ (∀ H', (∀ e, b.es[k]? = some e → ¬ cmpK e key < 0) → Ext H11 H' → J false H')) ⟨fun e H29 he hlt x29 => cndT rfl ⟨rfl, hnext18 _ _ (List.getElem?_eq_some_iff.1 he).1 ⟨x29, ?_, fun e' he' => ?_⟩⟩, fun H29 hge x29 => cndF rfl ?_⟩ fun J hJ => cndI (fun hlt => ?_) fun hlt => ?_
  · rw [wrap_id (x := (k : Int) + 1) (by omega) (by omega)]; rfl
  · rw [take_snoc he] at he'
    rcases List.mem_append.1 he' with he' | he'
    · exact hall e' he'
    · obtain rfl := List.mem_singleton.1 he'; exact hlt
  rotate_left
  · have hlt := of_decide_eq_true hlt
    obtain ⟨e, he⟩ := get_of (l := b.es) (i := k) (by omega)
    have hm := List.mem_of_getElem? he
    have hke := ((hnd.key e hm).ext x11).ext x17
    refine ⟨by omega, by omega, rd_en ((hnd.es.ext x11).ext x17) he fun q o _ k1 k2 => ⟨_, _, _, by simpa using k1, _, by simpa using k2, ?_⟩⟩
    refine c42 hke (hek e hm) fun A' c' s => ⟨_, _, _, rfl, c41 s (((hS.ext x11).ext x17)) fun H26 x26 => ⟨_, rfl, ?_⟩⟩
    show J (decide (cmpK e key < 0)) H26
    by_cases hc : cmpK e key < 0
    · rw [decide_eq_true hc]; exact hJ.1 e H26 he hc (x17.trans x26)
    · rw [decide_eq_false hc]; exact hJ.2 H26 (fun e' he' => by rw [he] at he'; cases he'; exact hc) (x17.trans x26)
  · have hlt := of_decide_eq_false hlt
    exact hJ.2 H17 (fun e he => by have := (List.getElem?_eq_some_iff.1 he).1; omega) x17
  have hat := at_is hall hge hk
  refine jn_intro (fun J => (∀ H', Ext H11 H' → (hitB b.es key = true ∨ b.ks = []) → J true H') ∧ (∀ H', Ext H11 H' → hitB b.es key = false → b.ks ≠ [] → J false H')) ⟨fun H41 x41 hst => cndT rfl ?_, fun H41 x41 hnh hnk => cndF rfl ?_⟩ fun J hJ => cndI (fun hlt => ?_) fun hlt => ?_
  · have : touchB key g u (1 + (j : Int)) = 1 + (j : Int) := by
      cases g with
      | zero => rfl
      | succ g =>
        have hh : hitB u.es key = true := by
          rcases hst with hst | hst
          · rw [← hbe]; exact hst
          · exfalso
            rcases hkids with ⟨h0, _⟩ | ⟨g', _, hl, _⟩
            · cases h0
            · rw [hst] at hl; simp at hl
        unfold touchB
        rw [if_pos hh]
    rw [htou, this] at hq
    exact hq H41 (x11.trans x41)
  · rcases hkids with ⟨_, h0⟩ | ⟨g', rfl, hl, hkk⟩
    · exact absurd h0 hnk
    obtain ⟨x, hx⟩ := get_of (l := b.ks) (i := k) (by omega)
    obtain ⟨v, hv', a1, a2, a3⟩ := hkk k x hx
    refine ⟨by omega, by omega, rd_in ((hnd.ks.ext x11).ext x41) hx fun q o _ kc => ⟨x, by simpa using kc, rfl, hnext _ _ (by omega) ⟨x11.trans x41, x, v, g', false, by omega, a1, a2, a3, ?_, ?_⟩⟩⟩
    · rw [wrap_id (x := 1 + (j : Int) + 1) (by omega) (by omega)]
      rw [show (1 + (j : Int) + 1) = 1 + ((j + 1 : Nat) : Int) by omega]
    · rw [htou]
      show (if hitB u.es key = true then _ else match u.ks[atN u.es key]? with | some u => touchB key g' u (1 + (j : Int) + 1) | none => _) = _
      rw [← hbe, if_neg (by rw [hnh]; decide), hat, hv']
      show touchB key g' v (1 + (j : Int) + 1) = touchB key g' v (1 + ((j + 1 : Nat) : Int))
      rw [show (1 + (j : Int) + 1) = 1 + ((j + 1 : Nat) : Int) by omega]
  · have hlt := of_decide_eq_true hlt
    obtain ⟨e, he⟩ := get_of (l := b.es) (i := k) (by omega)
    have hm := List.mem_of_getElem? he
    have hke := ((hnd.key e hm).ext x11).ext x29
    have hhit : hitB b.es key = (cmpK e key == 0) := by unfold hitB; rw [hat, he]
    refine ⟨by omega, by omega, rd_en ((hnd.es.ext x11).ext x29) he fun q o _ k1 k2 => ⟨_, _, _, by simpa using k1, _, by simpa using k2, ?_⟩⟩
    refine c42 hke (hek e hm) fun A' c' s => ⟨_, _, _, rfl, c41 s (((hS.ext x11).ext x29)) fun H38 x38 => ⟨_, rfl, cndI (fun hz => ?_) fun hz => ?_⟩⟩
    · exact hJ.1 H38 (x29.trans x38) (.inl (by rw [hhit]; exact hz))
    · cases hk0 : (((b.ks.length : Nat) : Int) == 0) with
      | true => exact hJ.1 H38 (x29.trans x38) (.inr (List.eq_nil_of_length_eq_zero (by have := beq_iff_eq.1 hk0; omega)))
      | false => exact hJ.2 H38 (x29.trans x38) (by rw [hhit]; exact hz) (fun e0 => by rw [e0] at hk0; simp at hk0)
  · have hlt := of_decide_eq_false hlt
    have hhit : hitB b.es key = false := by unfold hitB; rw [hat, List.getElem?_eq_none_iff.2 (by omega)]
    cases hk0 : (((b.ks.length : Nat) : Int) == 0) with
    | true => exact hJ.1 H29 x29 (.inr (List.eq_nil_of_length_eq_zero (by have := beq_iff_eq.1 hk0; omega)))
    | false => exact hJ.2 H29 x29 hhit (fun e0 => by rw [e0] at hk0; simp at hk0)
theorem c19 (hTx : TxS key) (hT : TrAt H A n bl) (hF : Fewish bl) (hS : SlAt vlC H kA kn key) {h : Nat} {t : BT} (hv : treeV bl root cols = some S) (hA : AtB bl h root t) (hFu : FullB true h t) (ho : S.out = flatB h t) (hh : h ≤ 2000)
    (hq : ∀ H', Ext H H' → Q (.tuple #[.int .i64 (touT 1 cols key h t).1, .int .i64 (touT 1 cols key h t).2]) H') : HCalls Tryz.prog 19 [.agg #[.slice A n c, .int .i64 root, .int .i64 cols], .slice kA kn kc] H Q := by
  refine f19.ok _ _ _ _ _ _ _ _ ?_
  unfold f19
  obtain ⟨hs, hgd, _⟩ := tree_of hv
  have hent := good_ent hgd
  have hn := hT.sl.len
  have hsm := hT.sl.small
  unfold huge at hsm
  obtain rfl := hS.len
  obtain ⟨hs1, hs2, hs3, hs4⟩ := id hs
  unfold touT at hq
  refine jn_intro (fun J => (keyG 1 cols key = false → ∀ H', Ext H H' → J true H') ∧ (keyG 1 cols key = true → ∀ H', Ext H H' → J false H')) ⟨fun hg H8 x8 => cndT rfl (by rw [if_neg (by rw [hg]; decide)] at hq; exact hq H8 x8), fun hg H8 x8 => cndF rfl ?_⟩ fun J hJ => ?_
  rotate_left
  · refine c14 hT hF fun H2 x2 => ⟨_, rfl, ?_⟩
    rw [hv]
    refine cndF rfl (c43 hTx (hS.ext x2) hs2 ⟨_, rfl, ?_⟩)
    cases hk : keyG 1 cols key with
    | true => exact hJ.2 hk H2 x2
    | false => exact hJ.1 hk H2 x2
  rw [if_pos hg] at hq
  have hkv : validL key = true := by
    unfold keyG at hg
    simp only [Bool.and_eq_true, decide_eq_true_eq] at hg
    exact hg.2.2
  have hkc : ((key.length : Nat) : Int) ≤ cols := by
    unfold keyG at hg
    simp only [Bool.and_eq_true, decide_eq_true_eq] at hg
    exact hg.2.1
  refine loop_to h (fun j st H' => Ext H H' ∧ ∃ i u g r, g + j = h ∧ AtB bl g i u ∧ FullB r g u ∧ (∀ e ∈ flatB g u, e ∈ S.out) ∧ st = ((i, (1 + (j : Int), ())), ()) ∧ touchB key h t 1 = touchB key g u (1 + (j : Int))) ⟨x8, root, t, h, true, rfl, hA, hFu, fun e he => by rw [ho]; exact he, rfl, rfl⟩ ?_
  rintro j st H11 next hj ⟨x11, i, u, g, r, hgj, hA', hF', hin, rfl, htou⟩ hnext
  obtain ⟨hi0, b, hb, hbe, hb8, hbin, hkids⟩ := at_open hA' hF' hin
  have hnd := hT.nd b (List.mem_of_getElem? hb)
  have hil := (List.getElem?_eq_some_iff.1 hb).1
  have hksm := hnd.ks.small
  unfold huge at hksm
  dsimp only
  refine ⟨by omega, by omega, rd_nd (hT.ext x11).sl hb fun q o _ k1 k2 => ⟨_, _, _, k1, _, _, _, k2, ?_⟩⟩
  refine loop_to b.es.length (fun k st H' => Ext H11 H' ∧ st = (((k : Int), ()), ()) ∧ ∀ e ∈ b.es.take k, cmpK e key < 0) ⟨Ext.refl _, rfl, by simp⟩ ?_
  rintro k st H17 next18 hk ⟨x17, rfl, hall⟩ hnext18
  dsimp only
  have hek : ∀ e ∈ b.es, key.length ≤ e.key.length := fun e he => by have := (ent_len (hent e (hbin e he))).1; omega
  refine jn_intro (fun J => (∀ e H', b.es[k]? = some e → cmpK e key < 0 → Ext H11 H' → J true H') ∧ (∀ H', (∀ e, b.es[k]? = some e → ¬ cmpK e key < 0) → Ext H11 H' → J false H')) ⟨fun e H29 he hlt x29 => cndT rfl ⟨rfl, hnext18 _ _ (List.getElem?_eq_some_iff.1 he).1 ⟨x29, ?_, fun e' he' => ?_⟩⟩, fun H29 hge x29 => cndF rfl ?_⟩ fun J hJ => cndI (fun hlt => ?_) fun hlt => ?_
  · rw [wrap_id (x := (k : Int) + 1) (by omega) (by omega)]; rfl
  · rw [take_snoc he] at he'
    rcases List.mem_append.1 he' with he' | he'
    · exact hall e' he'
    · obtain rfl := List.mem_singleton.1 he'; exact hlt
  rotate_left
  · have hlt := of_decide_eq_true hlt
    obtain ⟨e, he⟩ := get_of (l := b.es) (i := k) (by omega)
    have hm := List.mem_of_getElem? he
    have hke := ((hnd.key e hm).ext x11).ext x17
    refine ⟨by omega, by omega, rd_en ((hnd.es.ext x11).ext x17) he fun q o _ k1 k2 => ⟨_, _, _, by simpa using k1, c44 hke.sl ((hS.ext x11).ext x17) hke.tx hTx ⟨_, rfl, ?_⟩⟩⟩
    rw [keyK (ent_len (hent e (hbin e hm))).2 hkv (hek e hm)]
    by_cases hc : cmpK e key < 0
    · rw [decide_eq_true hc]; exact hJ.1 e H17 he hc x17
    · rw [decide_eq_false hc]; exact hJ.2 H17 (fun e' he' => by rw [he] at he'; cases he'; exact hc) x17
  · have hlt := of_decide_eq_false hlt
    exact hJ.2 H17 (fun e he => by have := (List.getElem?_eq_some_iff.1 he).1; omega) x17
  have hat := at_is hall hge hk
  refine jn_intro (fun J => (∀ H', Ext H11 H' → (hitB b.es key = true ∨ b.ks = []) → J true H') ∧ (∀ H', Ext H11 H' → hitB b.es key = false → b.ks ≠ [] → J false H')) ⟨fun H41 x41 hst => cndT rfl ?_, fun H41 x41 hnh hnk => cndF rfl ?_⟩ fun J hJ => cndI (fun hk0 => hJ.1 H29 x29 (.inr (List.eq_nil_of_length_eq_zero (by have := beq_iff_eq.1 hk0; omega)))) fun hk0 => cndI (fun hlt => ?_) fun hlt => ?_
  · have : touchB key g u (1 + (j : Int)) = 1 + (j : Int) := by
      cases g with
      | zero => rfl
      | succ g =>
        have hh : hitB u.es key = true := by
          rcases hst with hst | hst
          · rw [← hbe]; exact hst
          · exfalso
            rcases hkids with ⟨h0, _⟩ | ⟨g', _, hl, _⟩
            · cases h0
            · rw [hst] at hl; simp at hl
        unfold touchB
        rw [if_pos hh]
    rw [htou, this] at hq
    exact hq H41 (x11.trans x41)
  · rcases hkids with ⟨_, h0⟩ | ⟨g', rfl, hl, hkk⟩
    · exact absurd h0 hnk
    obtain ⟨x, hx⟩ := get_of (l := b.ks) (i := k) (by omega)
    obtain ⟨v, hv', a1, a2, a3⟩ := hkk k x hx
    refine ⟨by omega, by omega, rd_in ((hnd.ks.ext x11).ext x41) hx fun q o _ kc => ⟨x, by simpa using kc, rfl, hnext _ _ (by omega) ⟨x11.trans x41, x, v, g', false, by omega, a1, a2, a3, ?_, ?_⟩⟩⟩
    · rw [wrap_id (x := 1 + (j : Int) + 1) (by omega) (by omega)]
      rw [show (1 + (j : Int) + 1) = 1 + ((j + 1 : Nat) : Int) by omega]
    · rw [htou]
      show (if hitB u.es key = true then _ else match u.ks[atN u.es key]? with | some u => touchB key g' u (1 + (j : Int) + 1) | none => _) = _
      rw [← hbe, if_neg (by rw [hnh]; decide), hat, hv']
      show touchB key g' v (1 + (j : Int) + 1) = touchB key g' v (1 + ((j + 1 : Nat) : Int))
      rw [show (1 + (j : Int) + 1) = 1 + ((j + 1 : Nat) : Int) by omega]
  · have hlt := of_decide_eq_true hlt
    obtain ⟨e, he⟩ := get_of (l := b.es) (i := k) (by omega)
    have hm := List.mem_of_getElem? he
    have hke := ((hnd.key e hm).ext x11).ext x29
    have hhit : hitB b.es key = (cmpK e key == 0) := by unfold hitB; rw [hat, he]
    refine ⟨by omega, by omega, rd_en ((hnd.es.ext x11).ext x29) he fun q o _ k1 k2 => ⟨_, _, _, by simpa using k1, c44 hke.sl ((hS.ext x11).ext x29) hke.tx hTx ⟨_, rfl, ?_⟩⟩⟩
    rw [keyK (ent_len (hent e (hbin e hm))).2 hkv (hek e hm)]
    cases hz : cmpK e key == 0 with
    | true => exact hJ.1 H29 x29 (.inl (by rw [hhit]; exact hz))
    | false => exact hJ.2 H29 x29 (by rw [hhit]; exact hz) (fun e0 => by rw [e0] at hk0; simp at hk0)
  · have hlt := of_decide_eq_false hlt
    have hhit : hitB b.es key = false := by unfold hitB; rw [hat, List.getElem?_eq_none_iff.2 (by omega)]
    exact hJ.2 H29 x29 hhit (fun e0 => by rw [e0] at hk0; simp at hk0)
end
end Go.Proofs.YtmelbipidffmpaaGreatDoor.Hw

/- Trees: Find and Between, of both. -/
set_option linter.unusedVariables false
set_option linter.unusedSimpArgs false
set_option linter.unusedSectionVars false
set_option maxRecDepth 20000
namespace Go.Proofs.YtmelbipidffmpaaGreatDoor.Hw
open Go Go.Proofs
/-- A number of a row is set. -/
theorem RowI.set {H0 H : Hp} {A : Option Addr} {c : Nat} {L : List Int} {x v : Int} {K : Hp → Prop} (R : RowI H0 H A c L) (hx : Ext H0 H) (h0 : 0 ≤ x) (h1 : x < L.length) (hk : ∀ H', RowI H0 H' A c (L.set x.toNat v) → Ext H0 H' → (∀ b, H' b ≠ H b → rowB A b ∨ H b = none) → K H') :
    onPtr A fun b o => storeF H b (o + x.toNat * 1) [.int .i64 v] K := by
  obtain ⟨r1, r2, ⟨r3, r4⟩ | ⟨b, cs, ty, rfl, r4, r5, r6, r7⟩⟩ := R
  · omega
  · have hl : L.length ≤ cs.length := by omega
    refine onPtrI ⟨cs, ty, r4, by simp; omega, hk _ ⟨by rw [inC_len], by rw [List.length_set]; exact r2, .inr ⟨b, _, ty, rfl, upd_at, ?_, ?_, r7⟩⟩ (hx.upd r7) fun q hq => .inl ?_⟩
    · rw [setR_length (by simp; omega)]; exact r5
    · rw [Nat.zero_add, Nat.mul_one, List.length_set, Nat.mul_one]
      rw [Nat.mul_one] at r6
      apply List.ext_getElem?
      intro j
      rw [inC_get, List.getElem?_set, List.getElem?_take]
      have hcs : ∀ j, j < L.length → cs[j]? = (L[j]?).map (fun x => Value.int .i64 x) := fun j hj => by
        have : (cs.take L.length)[j]? = (L.flatMap inC)[j]? := by rw [r6]
        rw [List.getElem?_take_of_lt hj, inC_get] at this
        exact this
      by_cases hj : j < L.length
      · rw [if_pos hj]
        unfold setR
        by_cases e : x.toNat = j
        · subst e
          rw [if_pos rfl, if_pos hj, List.append_assoc, List.getElem?_append_right (by simp; omega), List.length_take]
          rw [show x.toNat - min x.toNat cs.length = 0 by omega]
          rfl
        · rw [if_neg e, ← hcs j hj, List.append_assoc]
          by_cases e2 : j < x.toNat
          · rw [List.getElem?_append_left (by simp; omega), List.getElem?_take_of_lt e2]
          · rw [List.getElem?_append_right (by simp; omega), List.length_take, List.getElem?_append_right (by simp; omega), List.getElem?_drop]
            congr 1
            simp
            omega
      · rw [if_neg hj]
        by_cases e : x.toNat = j
        · omega
        · rw [if_neg e, List.getElem?_eq_none (by omega)]; rfl
    · by_cases e : q = b
      · subst e; exact ⟨_, _, rfl⟩
      · exact absurd (upd_off e) hq

section
variable {H0 H : Hp} {A oA kA lA : Option Addr} {n c oc kn kc ln lc : Nat} {root cols : Int} {S : Sv} {Q : Value → Hp → Prop} {bl : List NdM} {key low : List Vl}
theorem c18N (N : NullAt H) (hT : TrAt H A n bl) (hF : Fewish bl) (hv : treeV bl root cols = none)
    (hq : ∀ H', Ext H H' → Q (.tuple #[.int .i64 0, .int .i64 2]) H') : HCalls Tryz.prog 18 [.agg #[.slice A n c, .int .i64 root, .int .i64 cols], .slice kA kn kc] H Q := by
  refine f18.ok _ _ _ _ _ _ _ _ ?_
  unfold f18
  refine jn_intro (fun J => ∀ H', Ext H H' → J true H') (fun H8 x8 => cndT rfl (hq H8 x8)) fun J hJ => ?_
  refine c13 N hT hF fun H2 x2 => ⟨_, rfl, ?_⟩
  rw [hv]
  exact cndT rfl (hJ H2 x2)
theorem c19N (hT : TrAt H A n bl) (hF : Fewish bl) (hv : treeV bl root cols = none)
    (hq : ∀ H', Ext H H' → Q (.tuple #[.int .i64 0, .int .i64 2]) H') : HCalls Tryz.prog 19 [.agg #[.slice A n c, .int .i64 root, .int .i64 cols], .slice kA kn kc] H Q := by
  refine f19.ok _ _ _ _ _ _ _ _ ?_
  unfold f19
  refine jn_intro (fun J => ∀ H', Ext H H' → J true H') (fun H8 x8 => cndT rfl (hq H8 x8)) fun J hJ => ?_
  refine c14 hT hF fun H2 x2 => ⟨_, rfl, ?_⟩
  rw [hv]
  exact cndT rfl (hJ H2 x2)
end
end Go.Proofs.YtmelbipidffmpaaGreatDoor.Hw

/- Trees: Between and Find, of both. -/
set_option linter.unusedVariables false
set_option linter.unusedSimpArgs false
set_option linter.unusedSectionVars false
set_option maxRecDepth 20000
namespace Go.Proofs.YtmelbipidffmpaaGreatDoor.Hw
open Go Go.Proofs
section
variable {H0 H : Hp} {A oA kA lA : Option Addr} {n c oc kn kc ln lc : Nat} {root cols : Int} {S : Sv} {Q : Value → Hp → Prop} {bl : List NdM} {low high : List Vl} {back : Bool}
end
end Go.Proofs.YtmelbipidffmpaaGreatDoor.Hw

/- What functions of the program come to, by the evaluator: printed by a program of this session (gen.py) and checked here. -/
set_option linter.unusedVariables false
set_option maxRecDepth 100000
namespace Go.Proofs.YtmelbipidffmpaaGreatDoor.Hw
open Go Go.Proofs

/-- justiciar justiciarlaw17.TreeTells -/
def f3 (pt_0_A : Option Addr) (pt_0_n pt_0_c : Nat) (pt_1 : Int) (pt_2 : Int) (pkey_A : Option Addr) (pkey_n pkey_c : Nat) (H : Hp) (Q : Value → Hp → Prop) : Prop :=
  jn (fun (j4 : Bool) (H5 : Hp) => cnd j4 (HCalls Tryz.prog 10 [] H5 fun v7 H8 => ∃ x9 : Bool, v7 = .bool x9 ∧ Q (.bool x9) H8) (HCalls Tryz.prog 11 [.agg #[.slice pt_0_A pt_0_n pt_0_c, .int .i64 pt_1, .int .i64 pt_2]] H5
    fun v10 H11 => ∃ (A12 : Option Addr) (n12 c12 : Nat), ∃ x13 : Int, v10 = .tuple #[.slice A12 n12 c12, .int .i64 x13] ∧ HCalls Tryz.prog 12 [.agg #[.slice pt_0_A pt_0_n pt_0_c, .int .i64 pt_1, .int .i64 pt_2]] H11 fun
    v14 H15 => ∃ (A16 : Option Addr) (n16 c16 : Nat), ∃ x17 : Int, v14 = .tuple #[.slice A16 n16 c16, .int .i64 x17] ∧ jn (fun (j27 : Bool) (H28 : Hp) => cnd j27 (Q (.bool false) H28) (HCalls Tryz.prog 16 [.agg #[.slice
    pt_0_A pt_0_n pt_0_c, .int .i64 pt_1, .int .i64 pt_2]] H28 fun v30 H31 => ∃ x32 : Int, ∃ x33 : Int, v30 = .tuple #[.int .i64 x32, .int .i64 x33] ∧ HCalls Tryz.prog 17 [.agg #[.slice pt_0_A pt_0_n pt_0_c, .int .i64
    pt_1, .int .i64 pt_2]] H31 fun v34 H35 => ∃ x36 : Int, ∃ x37 : Int, v34 = .tuple #[.int .i64 x36, .int .i64 x37] ∧ jn (fun (j38 : Bool) => cnd j38 (Q (.bool false) H35) (HCalls Tryz.prog 18 [.agg #[.slice pt_0_A
    pt_0_n pt_0_c, .int .i64 pt_1, .int .i64 pt_2], .slice pkey_A pkey_n pkey_c] H35 fun v40 H41 => ∃ x42 : Int, ∃ x43 : Int, v40 = .tuple #[.int .i64 x42, .int .i64 x43] ∧ HCalls Tryz.prog 19 [.agg #[.slice pt_0_A pt_0_n
    pt_0_c, .int .i64 pt_1, .int .i64 pt_2], .slice pkey_A pkey_n pkey_c] H41 fun v44 H45 => ∃ x46 : Int, ∃ x47 : Int, v44 = .tuple #[.int .i64 x46, .int .i64 x47] ∧ jn (fun (j51 : Bool) (H52 : Hp) => Q (.bool j51) H52)
    fun J53 => cnd ((x42 : Int) == x46) (cnd ((x43 : Int) == x47) (HCalls Tryz.prog 10 [] H45 fun v48 H49 => ∃ x50 : Bool, v48 = .bool x50 ∧ J53 x50 H49) (J53 false H45)) (J53 false H45))) fun J39 => cnd ((x32 : Int) !=
    x36) (J39 true) (J39 ((x33 : Int) != x37)))) fun J29 => HCalls Tryz.prog 13 [.agg #[.slice pt_0_A pt_0_n pt_0_c, .int .i64 pt_1, .int .i64 pt_2]] H15 fun v18 H19 => ∃ x20 : Bool, v18 = .bool x20 ∧ HCalls Tryz.prog 14
    [.agg #[.slice pt_0_A pt_0_n pt_0_c, .int .i64 pt_1, .int .i64 pt_2]] H19 fun v21 H22 => ∃ x23 : Bool, v21 = .bool x23 ∧ cnd (!(x20 == x23)) (J29 true H22) (HCalls Tryz.prog 15 [.slice A12 n12 c12, .slice A16 n16 c16]
    H22 fun v24 H25 => ∃ x26 : Bool, v24 = .bool x26 ∧ cnd (!x26) (J29 true H25) (J29 ((x13 : Int) != x17) H25)))) fun J6 => HCalls Tryz.prog 9 [.agg #[.slice pt_0_A pt_0_n pt_0_c, .int .i64 pt_1, .int .i64 pt_2]] H fun
    v1 H2 => ∃ x3 : Bool, v1 = .bool x3 ∧ cnd (!x3) (J6 true H2) (J6 (decide ((((pkey_n : Nat) : Int) : Int) > 30)) H2)
noncomputable def fcx3 : Cx := cx 87 [(2, true)] [] [(5, (.look 0 (.look 2 (.act 1 (.act 3 (.look 4 (.look 5 (.look 6 (.look 7 (.act 8 (.look 9 (.look 10 (.look 11 (.look 12 (.look 13 (.look 14 (.look 15 .done))))))) .done))))) .done) .done))))] []
theorem f3.eq (pt_0_A : Option Addr) (pt_0_n pt_0_c : Nat) (pt_1 : Int) (pt_2 : Int) (pkey_A : Option Addr) (pkey_n pkey_c : Nat) (H : Hp) (Q : Value → Hp → Prop) : f3 pt_0_A pt_0_n pt_0_c pt_1 pt_2 pkey_A pkey_n pkey_c H Q = wFun fcx3 Tryz.f3 [.agg #[.slice pt_0_A pt_0_n pt_0_c, .int .i64 pt_1, .int .i64 pt_2], .slice pkey_A pkey_n pkey_c] H Q := by kernel_rfl
theorem f3.ok (pt_0_A : Option Addr) (pt_0_n pt_0_c : Nat) (pt_1 : Int) (pt_2 : Int) (pkey_A : Option Addr) (pkey_n pkey_c : Nat) {H : Hp} {Q : Value → Hp → Prop} (h : f3 pt_0_A pt_0_n pt_0_c pt_1 pt_2 pkey_A pkey_n pkey_c H Q) : HCalls Tryz.prog 3 [.agg #[.slice pt_0_A pt_0_n pt_0_c, .int .i64 pt_1, .int .i64 pt_2], .slice pkey_A pkey_n pkey_c] H Q := hcalls_of (cxOk 87 [(2, true)] [] [(5, (.look 0 (.look 2 (.act 1 (.act 3 (.look 4 (.look 5 (.look 6 (.look 7 (.act 8 (.look 9 (.look 10 (.look 11 (.look 12 (.look 13 (.look 14 (.look 15 .done))))))) .done))))) .done) .done))))] []) Tryz.func3 (Eq.mp (f3.eq pt_0_A pt_0_n pt_0_c pt_1 pt_2 pkey_A pkey_n pkey_c H Q) h)

/-- justiciar justiciarlaw17.TreeFinds -/
def f4 (pt_0_A : Option Addr) (pt_0_n pt_0_c : Nat) (pt_1 : Int) (pt_2 : Int) (plow_A : Option Addr) (plow_n plow_c : Nat) (phigh_A : Option Addr) (phigh_n phigh_c : Nat) (H : Hp) (Q : Value → Hp → Prop) : Prop :=
  jn (fun (j4 : Bool) (H5 : Hp) => cnd j4 (HCalls Tryz.prog 10 [] H5 fun v7 H8 => ∃ x9 : Bool, v7 = .bool x9 ∧ Q (.bool x9) H8) (HCalls Tryz.prog 20 [.agg #[.slice pt_0_A pt_0_n pt_0_c, .int .i64 pt_1, .int .i64 pt_2],
    .slice plow_A plow_n plow_c] H5 fun v10 H11 => ∃ (A12 : Option Addr) (n12 c12 : Nat), ∃ x13 : Int, v10 = .tuple #[.slice A12 n12 c12, .int .i64 x13] ∧ HCalls Tryz.prog 21 [.agg #[.slice pt_0_A pt_0_n pt_0_c, .int .i64
    pt_1, .int .i64 pt_2], .slice plow_A plow_n plow_c] H11 fun v14 H15 => ∃ (A16 : Option Addr) (n16 c16 : Nat), ∃ x17 : Int, v14 = .tuple #[.slice A16 n16 c16, .int .i64 x17] ∧ jn (fun (j21 : Bool) (H22 : Hp) => cnd j21
    (Q (.bool false) H22) (newF H22 4 [.bool false, .bool true] fun g24 H25 => LoopF (σ := (Int × Unit) × Unit) ((0, ()), ()) H25 fun s26 H27 next28 => cnd (decide ((s26.1.1 : Int) < ((2 : Nat) : Int))) (0 ≤ (s26.1.1 :
    Int) ∧ (s26.1.1 : Int) < ((2 : Nat) : Int) ∧ ∃ x29 : Bool, cl H27 g24 (0 + (s26.1.1 : Int).toNat * 1) = some (.bool x29) ∧ HCalls Tryz.prog 23 [.agg #[.slice pt_0_A pt_0_n pt_0_c, .int .i64 pt_1, .int .i64 pt_2],
    .slice plow_A plow_n plow_c, .slice phigh_A phigh_n phigh_c, .bool x29] H27 fun v30 H31 => ∃ (A32 : Option Addr) (n32 c32 : Nat), ∃ x33 : Int, v30 = .tuple #[.slice A32 n32 c32, .int .i64 x33] ∧ HCalls Tryz.prog 24
    [.agg #[.slice pt_0_A pt_0_n pt_0_c, .int .i64 pt_1, .int .i64 pt_2], .slice plow_A plow_n plow_c, .slice phigh_A phigh_n phigh_c, .bool x29] H31 fun v34 H35 => ∃ (A36 : Option Addr) (n36 c36 : Nat), ∃ x37 : Int, v34
    = .tuple #[.slice A36 n36 c36, .int .i64 x37] ∧ jn (fun (j41 : Bool) (H42 : Hp) => cnd j41 (Q (.bool false) H42) (KeepX [some (.v (.slice plow_A plow_n plow_c)), some (.v (.slice phigh_A phigh_n phigh_c)), some (.loc
    3 0), some (.v (.slice (some ⟨g24, 0, none⟩) 2 2)), some (.v (.int .i64 ((2 : Nat) : Int)))] [some (true, [.slice pt_0_A pt_0_n pt_0_c, .int .i64 pt_1, .int .i64 pt_2])] ∧ next28 ((IntKind.i64.wrap (s26.1.1 + 1), ()),
    ()) H42)) fun J43 => HCalls Tryz.prog 22 [.slice A32 n32 c32, .slice A36 n36 c36] H35 fun v38 H39 => ∃ x40 : Bool, v38 = .bool x40 ∧ cnd (!x40) (J43 true H39) (J43 ((x33 : Int) != x37) H39)) (HCalls Tryz.prog 10 []
    H27 fun v44 H45 => ∃ x46 : Bool, v44 = .bool x46 ∧ Q (.bool x46) H45))) fun J23 => HCalls Tryz.prog 22 [.slice A12 n12 c12, .slice A16 n16 c16] H15 fun v18 H19 => ∃ x20 : Bool, v18 = .bool x20 ∧ cnd (!x20) (J23 true
    H19) (J23 ((x13 : Int) != x17) H19))) fun J6 => HCalls Tryz.prog 9 [.agg #[.slice pt_0_A pt_0_n pt_0_c, .int .i64 pt_1, .int .i64 pt_2]] H fun v1 H2 => ∃ x3 : Bool, v1 = .bool x3 ∧ cnd (!x3) (J6 true H2) (cnd (decide
    ((((plow_n : Nat) : Int) : Int) > 30)) (J6 true H2) (J6 (decide ((((phigh_n : Nat) : Int) : Int) > 30)) H2))
end Go.Proofs.YtmelbipidffmpaaGreatDoor.Hw

/- Trees: Between of the document; Find; the laws TreeTells and TreeFinds without awake. -/
set_option linter.unusedVariables false
set_option linter.unusedSimpArgs false
set_option linter.unusedSectionVars false
set_option maxRecDepth 20000
namespace Go.Proofs.YtmelbipidffmpaaGreatDoor.Hw
open Go Go.Proofs
section
variable {H0 H : Hp} {A oA kA lA : Option Addr} {n c oc kn kc ln lc : Nat} {root cols : Int} {S : Sv} {Q : Value → Hp → Prop} {bl : List NdM} {low high : List Vl} {back : Bool}
end
end Go.Proofs.YtmelbipidffmpaaGreatDoor.Hw

/- Trees: TreeTells, TreeFinds, TreeWays walked; awake is asked for. -/
set_option linter.unusedVariables false
set_option linter.unusedSimpArgs false
set_option linter.unusedSectionVars false
set_option maxRecDepth 20000
namespace Go.Proofs.YtmelbipidffmpaaGreatDoor.Hw
open Go Go.Proofs
def Awake : Prop := ∀ (H : Hp) (Q : Value → Hp → Prop), NullAt H → (∀ H', Ext H H' → Q (.bool true) H') → HCalls Tryz.prog 10 [] H Q
section
variable {H0 H : Hp} {A oA kA lA : Option Addr} {n c oc kn kc ln lc : Nat} {root cols : Int} {S : Sv} {Q : Value → Hp → Prop} {bl : List NdM} {key low high : List Vl} {back : Bool}
theorem c3 (aw : Awake) (N : NullAt H) (hT : TrAt H A n bl) (hF : Fewish bl) (hS : SlAt vlC H kA kn key) (tS : TxS key) (hq : ∀ H', Ext H H' → Q (.bool true) H') :
    HCalls Tryz.prog 3 [.agg #[.slice A n c, .int .i64 root, .int .i64 cols], .slice kA kn kc] H Q := by
  refine f3.ok _ _ _ _ _ _ _ _ ?_
  unfold f3
  refine jn_intro (fun J => ∀ b, J b H) (fun b => cndI (fun _ => aw H _ N fun H' hx => ⟨_, rfl, hq H' hx⟩) fun _ => ?_) fun J hJ => c9 hT fun b => ⟨_, rfl, cndI (fun _ => hJ _) fun _ => hJ _⟩
  refine c11 N hT hF fun A12 k12 l12 H11 x11 R12 hl12 he12 => ⟨_, _, _, _, rfl, ?_⟩
  refine c12 (hT.ext x11) hF fun A16 k16 l16 H15 x15 R16 hl16 he16 => ⟨_, _, _, _, rfl, ?_⟩
  have x15' := x11.trans x15
  refine jn_intro (fun J => ∀ H', Ext H H' → J false H') (fun H28 x28 => cndF rfl ?_) fun J hJ => ?_
  rotate_left
  · refine c13 (N.ext x15') (hT.ext x15') hF fun H19 x19 => ⟨_, rfl, c14 (hT.ext (x15'.trans x19)) hF fun H22 x22 => ⟨_, rfl, cndF (by simp) ?_⟩⟩
    have x22' := x15'.trans (x19.trans x22)
    refine c15 ((R12.at (by unfold huge; omega)).ext (x15.trans (x19.trans x22))) ((R16.at (by unfold huge; omega)).ext (x19.trans x22)) (by rw [he12, he16]) ⟨_, rfl, cndF rfl ?_⟩
    rw [show (((allT (treeV bl root cols)).2 : Int) != (allT (treeV bl root cols)).2) = false by simp]
    exact hJ H22 x22'
  refine c16 (N.ext x28) (hT.ext x28) hF fun H31 x31 => ⟨_, _, rfl, c17 (hT.ext (x28.trans x31)) hF fun H35 x35 => ⟨_, _, rfl, ?_⟩⟩
  have x35' := x28.trans (x31.trans x35)
  refine jn_intro (fun J => J false) (cndF rfl ?_) fun J hJ => cndF (by simp) (by
    rw [show (((depT (treeV bl root cols)).2 : Int) != (depT (treeV bl root cols)).2) = false by simp]; exact hJ)
  have fin : ∀ (a b : Int) H41, Ext H H41 → jn (fun (j51 : Bool) (H52 : Hp) => Q (.bool j51) H52) fun J53 => cnd ((a : Int) == a) (cnd ((b : Int) == b) (HCalls Tryz.prog 10 [] H41 fun v48 H49 => ∃ x50 : Bool, v48 = .bool x50 ∧ J53 x50 H49) (J53 false H41)) (J53 false H41) := fun a b H41 x41 =>
    jn_intro (fun J => ∀ H', Ext H H' → J true H') (fun H' hx => hq H' hx) fun J hJ => cndT (by simp) (cndT (by simp) (aw H41 _ (N.ext x41) fun H' hx => ⟨_, rfl, hJ H' (x41.trans hx)⟩))
  cases hv : treeV bl root cols with
  | none =>
    refine c18N (N.ext x35') (hT.ext x35') hF hv fun H41 x41 => ⟨_, _, rfl, c19N (hT.ext (x35'.trans x41)) hF hv fun H45 x45 => ⟨_, _, rfl, fin _ _ H45 (x35'.trans (x41.trans x45))⟩⟩
  | some S =>
    obtain ⟨_, _, h, t, a1, a2, a3, _, a5⟩ := tree_of hv
    refine c18 (N.ext x35') (hT.ext x35') hF (hS.ext x35') hv a1 a2 a3 a5 fun H41 x41 => ⟨_, _, rfl, c19 tS (hT.ext (x35'.trans x41)) hF (hS.ext (x35'.trans x41)) hv a1 a2 a3 a5 fun H45 x45 => ⟨_, _, rfl, fin _ _ H45 (x35'.trans (x41.trans x45))⟩⟩
end
end Go.Proofs.YtmelbipidffmpaaGreatDoor.Hw

/- From a function's contract to its row: what came in reads as it did. -/
set_option linter.unusedVariables false
set_option linter.unusedSimpArgs false
namespace Go.Proofs.YtmelbipidffmpaaGreatDoor.Hw
open Go
section
variable {H : Type} {enc : TypeId × Value → H} {P : Program} {w w' : World} {base : Nat} {sp : Nat → Bool}
theorem mapM_len {α β : Type} {f : α → Option β} : ∀ {l : List α} {r : List β}, l.mapM f = some r → r.length = l.length
  | [], r, h => by simp at h; subst h; rfl
  | x :: l, r, h => by
    rw [List.mapM_cons] at h
    simp only [bind, Option.bind_eq_some_iff, pure, Option.some.injEq] at h
    obtain ⟨y, _, r', h2, rfl⟩ := h
    simp [mapM_len h2]
/-- A type's parts lie in the table, and a slice's elements take a cell. -/
def partsB (P : Program) (d : Option TypeDesc) : Bool := match d with
  | some (.slice e) => decide (0 < P.cellsOf e) && decide (e < P.types.size)
  | some (.pointer e) => decide (e < P.types.size)
  | some (.struct fs) => fs.toList.all fun f => decide (f.type < P.types.size)
  | some (.array _ e) => decide (e < P.types.size)
  | some (.map _ e) => decide (e < P.types.size)
  | _ => true
/-- So for all types of the table. -/
def cellsB (P : Program) : Bool := (List.range P.types.size).all fun t => partsB P (P.underlying t)
theorem cellsB_ok (h : cellsB P = true) {t : TypeId} (ht : t < P.types.size) : partsB P (P.underlying t) = true := List.all_eq_true.1 h t (List.mem_range.2 ht)
/-- The reading of all cells of a slice is one that is told where to look for more. -/
theorem trodStep_spare {r r' : TypeId → List Value → Option (DataW H × List MemPlace)} {t : TypeId} (hz : partsB P (P.underlying t) = true)
    (hr : ∀ t cs x, t < P.types.size → r t cs = some x → (∀ p ∈ x.2, sp p.block = true) → r' t cs = some x) {cs : List Value} {x : DataW H × List MemPlace}
    (h : DataW.trodStep enc P w base (fun _ => true) true r t cs = some x) (hs : ∀ p ∈ x.2, sp p.block = true) : DataW.trodStep enc P w base sp true r' t cs = some x := by
  unfold DataW.trodStep at h ⊢
  split at h
  case h_6 e a hu =>
    rw [hu] at hz
    have he : e < P.types.size := of_decide_eq_true hz
    simp only [Option.map_eq_some_iff, Option.bind_eq_some_iff] at h ⊢
    obtain ⟨y, ⟨cs', hc, hy⟩, rfl⟩ := h
    exact ⟨y, ⟨cs', hc, hr _ _ _ he hy (fun p hp => hs p (by simp [hp]))⟩, rfl⟩
  case h_8 e a len cap hu =>
    rw [hu] at hz
    simp only [partsB, Bool.and_eq_true, decide_eq_true_eq] at hz
    obtain ⟨hz0, he⟩ := hz
    simp only at h ⊢
    split at h
    · rename_i hc
      rw [if_pos hc]
      simp only [if_true, Option.map_eq_some_iff, Option.bind_eq_some_iff] at h ⊢
      obtain ⟨elems, h1, rest, h2, rfl⟩ := h
      have g : ∀ i y, ((w.cells? base (a.add (i * P.cellsOf e)) (P.cellsOf e)).bind (r e)) = some y → (y ∈ elems ∨ y ∈ rest) → ((w.cells? base (a.add (i * P.cellsOf e)) (P.cellsOf e)).bind (r' e)) = some y := fun i y hy hm => by
        simp only [Option.bind_eq_some_iff] at hy ⊢
        obtain ⟨cs', hc', hy⟩ := hy
        exact ⟨cs', hc', hr _ _ _ he hy (fun p hp => hs p (by
          simp only [List.mem_append, List.mem_flatMap]
          exact .inr ⟨y, hm, hp⟩))⟩
      refine ⟨elems, mapM_carry h1 (fun i y _ hm hy => g i y hy (.inl hm)), rest, ?_, rfl⟩
      have hl2 : rest.length = cap - len := by
        have := mapM_len h2
        simpa using this
      by_cases hspa : sp a.block = true
      · rw [if_pos hspa]
        exact mapM_carry h2 (fun j y _ hm hy => g (len + j) y hy (.inr hm))
      · rw [if_neg hspa]
        have h0 : (elems.length + rest.length) * P.cellsOf e = 0 := by
          refine Classical.byContradiction fun hne => hspa ?_
          have := hs (.cell a.block (a.off + 0)) (by
            simp only [List.mem_append]
            exact .inl (MemPlace.mem_row.2 ⟨0, by omega, rfl⟩))
          exact this
        have : rest.length = 0 := by
          rcases Nat.mul_eq_zero.1 h0 with h3 | h3 <;> omega
        rw [List.length_eq_zero_iff.1 this]
    · cases h
  all_goals first | exact h | skip
  case h_9 fs hu =>
    rw [hu] at hz
    simp only [partsB, List.all_eq_true, decide_eq_true_eq] at hz
    split at h
    · rename_i hc
      rw [if_pos hc]
      simp only [Option.map_eq_some_iff] at h ⊢
      obtain ⟨xs, h1, rfl⟩ := h
      exact ⟨xs, mapM_carry h1 (fun f y hf hm hy => hr _ _ _ (hz f hf) hy (fun p hp => hs p (by
        simp only [List.mem_flatMap]
        exact ⟨y, hm, hp⟩))), rfl⟩
    · cases h
  case h_10 n e hu =>
    rw [hu] at hz
    have he : e < P.types.size := of_decide_eq_true hz
    split at h
    · rename_i hc
      rw [if_pos hc]
      simp only [Option.map_eq_some_iff] at h ⊢
      obtain ⟨xs, h1, rfl⟩ := h
      exact ⟨xs, mapM_carry h1 (fun f y _ hm hy => hr _ _ _ he hy (fun p hp => hs p (by
        simp only [List.mem_flatMap]
        exact ⟨y, hm, hp⟩))), rfl⟩
    · cases h
  case h_14 k e b hu =>
    rw [hu] at hz
    have he : e < P.types.size := of_decide_eq_true hz
    split at h
    · rename_i es clock hm
      simp only
      split at h
      · rename_i hc
        rw [if_pos hc]
        simp only [Option.bind_eq_some_iff] at h ⊢
        obtain ⟨entries, h1, h2⟩ := h
        split at h2
        · rename_i hri
          cases h2
          refine ⟨entries, mapM_carry h1 (fun y z _ hmem hy => ?_), by rw [if_pos hri]⟩
          simp only [Option.bind_eq_some_iff] at hy ⊢
          obtain ⟨key, hk, hy⟩ := hy
          refine ⟨key, hk, ?_⟩
          split at hy
          · rename_i hf
            rw [if_pos hf]
            simp only [Option.map_eq_some_iff] at hy ⊢
            obtain ⟨u, hu2, rfl⟩ := hy
            exact ⟨u, hr _ _ _ he hu2 (fun p hp => hs p (by
              simp only [List.mem_cons, List.mem_flatMap]
              exact .inr ⟨_, hmem, hp⟩)), rfl⟩
          · cases hy
        · cases h2
      · cases h
    · cases h
theorem trod_spare (hz : cellsB P = true) : ∀ (n : Nat) (t : TypeId) (cs : List Value) (x : DataW H × List MemPlace), t < P.types.size →
    DataW.trod enc P w base (fun _ => true) true n t cs = some x → (∀ p ∈ x.2, sp p.block = true) → DataW.trod enc P w base sp true n t cs = some x := by
  intro n
  induction n with
  | zero => intro t cs x _ h; simp [DataW.trod] at h
  | succ n ih =>
    intro t cs x ht h hs
    rw [DataW.trod_step] at h ⊢
    exact trodStep_spare (cellsB_ok hz ht) ih h hs
/-- What came in reads as it did, in a world in which all that was there stays. -/
theorem trodAll_again (hz : cellsB P = true) (hh : ∀ (b : Nat) o, w.heap[b]? = some o → w'.heap[b]? = some o) : ∀ {ts : List TypeId} {vs : List Value} {ds : List (DataW H)} {ps : List MemPlace}, (∀ t ∈ ts, t < P.types.size) →
    DataW.TrodAll enc P w base (fun _ => true) true ts vs ds ps → (∀ p ∈ ps, p.block < w.heap.size) → (∀ p ∈ ps, sp p.block = true) → DataW.TrodAll enc P w' base sp true ts vs ds ps
  | [], vs, ds, ps, _, h, _, _ => by
    obtain ⟨rfl, rfl, rfl⟩ := ChangeShapes.trodAll_nil h
    rfl
  | t :: ts, vs, ds, ps, hts, h, hl, hs => by
    obtain ⟨v, vs', d, ds', a, b, rfl, rfl, rfl, ⟨n, h1⟩, h2⟩ := ChangeShapes.trodAll_cons h
    have hold : ∀ p : MemPlace, p.block < w.heap.size → w'.heap[p.block]? = w.heap[p.block]? := fun p hp => by
      rw [Array.getElem?_eq_getElem hp]
      exact hh _ _ (Array.getElem?_eq_getElem hp)
    have same : ∀ p ∈ a, w.sameAt w' p := fun p hp => by
      have := hold p (hl p (List.mem_append_left _ hp))
      cases p with
      | cell b off => unfold World.sameAt World.cell?; simp only [MemPlace.block] at this; simp only [this]
      | map b => exact this
    exact ⟨a, b, ⟨n, DataW.trod_carry n t _ _ (trod_spare hz n t _ _ (hts t List.mem_cons_self) h1 (fun p hp => hs p (List.mem_append_left _ hp))) same⟩, trodAll_again hz hh (fun t ht => hts t (List.mem_cons_of_mem _ ht)) h2 (fun p hp => hl p (List.mem_append_right _ hp)) (fun p hp => hs p (List.mem_append_right _ hp)), rfl⟩
/-- The row's word for a function that only looks, and makes new memory. -/
theorem post_look {f : Func} {s : ChangeSpec} {apart fresh handsOn again : Bool} {W W' : World} {args : Array Value} {v : Value} {ds gs : List (DataW H)} {before : List MemPlace}
    (hz : cellsB P = true) (hps : ∀ t ∈ f.params.toList, t < P.types.size) (hW : DataW.Whole enc P f.params.toList s.vars apart W args.toList ds gs before) (hsv : s.vars = []) (hargs : (s.fn H (ds ++ gs)).args = ds) (hv2 : (s.fn H (ds ++ gs)).vars = [])
    (hres : ∀ (b : Nat) (sp : Nat → Bool) (hd : Bool), DataW.TrodAll enc P W' b sp hd f.resultTypes.toList (v.resultList f.resultTypes.size) (s.fn H (ds ++ gs)).results [])
    (hh : ∀ (b : Nat) o, W.heap[b]? = some o → W'.heap[b]? = some o) (hos : W'.os = W.os) (hout : W'.output = W.output)
    (hok : ∀ (j : Nat) (t : TypeId) (r : Value), f.resultTypes[j]? = some t → (v.resultList f.resultTypes.size)[j]? = some r → Value.okWide P W' .any 0 t r) :
    s.post enc P f apart fresh handsOn again W args v W' := by
  have hlt : ∀ p ∈ before, p.block < W.heap.size := fun p hp => hW.lt p hp
  have hold : ∀ p ∈ before, (fun b => decide (b < W.heap.size)) p.block = true := fun p hp => by simpa using hlt p hp
  have hW' := hW
  obtain ⟨pa, pv, hA, hV, hpe, hnf, hnd⟩ := hW'
  rw [hsv] at hV
  obtain ⟨hgs, hpv⟩ := ChangeShapes.trodVars_none hV
  subst hpv
  rw [List.append_nil] at hpe
  subst hpe
  have ag : ∀ sp : Nat → Bool, (∀ p ∈ before, sp p.block = true) → DataW.TrodAll enc P W' 0 sp true f.params.toList args.toList (s.fn H (ds ++ gs)).args before := fun sp hsp => by
    rw [hargs]
    exact trodAll_again hz hh hps hA hlt hsp
  have av : ∀ sp : Nat → Bool, DataW.TrodVars enc P W' sp s.vars (s.fn H (ds ++ gs)).vars [] := fun sp => by
    rw [hsv, hv2]
    exact rfl
  have same : ∀ b, b < W.heap.size → W'.heap[b]? = W.heap[b]? := fun b hb => by
    rw [Array.getElem?_eq_getElem hb]; exact hh _ _ (Array.getElem?_eq_getElem hb)
  refine ⟨ds, gs, before, [], before, [], hW, hres _ _ _, ag _ hold, av _, ⟨hos, hout, fun i hi => ?_⟩, fun _ => ?_⟩
  · rw [same i hi]
    cases hx : W.heap[i]? with
    | none => rfl
    | some o =>
      cases o with
      | cells c t fr => exact ⟨rfl, rfl, rfl, fun _ _ => rfl⟩
      | map es clock => exact .inr ⟨rfl, rfl⟩
      | _ => rfl
  · refine ⟨hok, _, _, ([] ++ before) ++ [], ⟨[] ++ before, [], ChangeShapes.trodAll_append (ag _ (fun _ _ => rfl)) (hres _ _ _), av _, rfl, ?_, ?_⟩, ?_⟩
    · intro b off hp
      have hp' : MemPlace.cell b off ∈ before := by simpa using hp
      have h1 := hnf b off hp'
      unfold World.frozen? at h1 ⊢
      rw [same b (hlt _ hp')]
      exact h1
    · intro ha
      have := hnd ha
      simpa using this
    · intro p hp _
      simpa using hp
/-- The whole heap of a world. -/
def hpOf (w : World) : Hp := fun b => w.heap[b]?
theorem cl_hp {b o : Nat} {v : Value} (h : w.cell? ⟨b, o, none⟩ = some v) : cl (hpOf w) b o = some v := by
  unfold World.cell? at h
  unfold cl hpOf
  split at h
  · rename_i c _ _ hb
    simp only at hb
    rw [hb]
    simpa using h
  · cases h
/-- A datum of which no part is too large. -/
def Sz (P : Program) (t : TypeId) (d : DataW H) : Prop := ∀ n ∈ d.weights P t, n ≤ reachBytes
theorem mem_all {e : TypeId} {d : DataW H} {n : Nat} : ∀ {l : List (DataW H)}, d ∈ l → n ∈ d.weights P e → n ∈ DataW.weightsAll P e l
  | x :: r, h, hn => by
    simp only [DataW.weightsAll, List.mem_append]
    rcases List.mem_cons.1 h with h | h
    · subst h; exact .inl hn
    · exact .inr (mem_all h hn)
theorem Sz.two {t : TypeId} {f0 f1 : Field} {d0 d1 : DataW H} (ht : P.underlying t = some (.struct #[f0, f1])) (h : Sz P t (.agg [d0, d1])) : Sz P f0.type d0 ∧ Sz P f1.type d1 := by
  unfold Sz at h
  simp only [DataW.weights, ht, DataW.weightsEach, List.map_cons, List.map_nil, List.append_nil, List.mem_append] at h
  exact ⟨fun n hn => h n (.inl hn), fun n hn => h n (.inr hn)⟩
theorem Sz.three {t : TypeId} {f0 f1 f2 : Field} {d0 d1 d2 : DataW H} (ht : P.underlying t = some (.struct #[f0, f1, f2])) (h : Sz P t (.agg [d0, d1, d2])) : Sz P f0.type d0 ∧ Sz P f1.type d1 ∧ Sz P f2.type d2 := by
  unfold Sz at h
  simp only [DataW.weights, ht, DataW.weightsEach, List.map_cons, List.map_nil, List.append_nil, List.mem_append] at h
  exact ⟨fun n hn => h n (.inl hn), fun n hn => h n (.inr (.inl hn)), fun n hn => h n (.inr (.inr hn))⟩
/-- A slice that came in: its cells, element by element. -/
theorem open_cells {spare : Nat → Bool} {held : Bool} {t e : TypeId} {fuel : Nat} {cs : List Value} {x : DataW H × List MemPlace} (ht : P.underlying t = some (.slice e)) (hC : 0 < P.cellsOf e) (hB : 0 < P.bytesOf e) (hsz : Sz P t x.1) (h : DataW.trod enc P w base spare held fuel t cs = some x) :
    ∃ (A : Option Addr) (n c : Nat) (f : Nat → List Value), cs = [.slice A n c] ∧ n ≤ reachBytes ∧ cellsAt (hpOf w) A ((List.range n).flatMap f) ∧ ∀ i, i < n → (f i).length = P.cellsOf e ∧ ∃ m y, Sz P e y.1 ∧ DataW.trod enc P w base spare held m e (f i) = some y := by
  rcases Go.Deep.open_slice ht h with ⟨rfl, _⟩ | ⟨a, len, cap, m, n, D, Pl, rfl, hb, hl, hm, hmm, hx, hi⟩
  · exact ⟨none, 0, 0, fun _ => [], rfl, by omega, .inl rfl, fun i hi => by omega⟩
  have hlm : len ≤ m := by rw [hmm]; split <;> omega
  have hsz' : (∀ k, k = (len + (m - len)) * P.bytesOf e → k ≤ reachBytes) ∧ ∀ i, i < len → Sz P e (D i) := by
    rw [hx] at hsz
    unfold Sz at hsz
    simp only [DataW.weights, ht, List.length_map, List.length_range, List.mem_cons, List.mem_append] at hsz
    exact ⟨fun k hk => hsz k (.inl hk), fun i hi k hk => hsz k (.inr (.inl (mem_all (List.mem_map_of_mem (f := D) (List.mem_range.2 hi)) hk)))⟩
  have hlr : len ≤ reachBytes := by
    have h1 := hsz'.1 _ rfl
    have h2 : len * 1 ≤ (len + (m - len)) * P.bytesOf e := Nat.mul_le_mul (by omega) hB
    omega
  refine ⟨some a, len, cap, fun i => (w.cells? base (a.add (i * P.cellsOf e)) (P.cellsOf e)).getD [], rfl, hlr, ?_, fun i him => ?_⟩
  rotate_left
  · obtain ⟨cs', hc, ht'⟩ := hi i (by omega)
    refine ⟨?_, n, _, hsz'.2 i him, by simp only [hc, Option.getD_some]; exact ht'⟩
    simp only [hc, Option.getD_some]
    exact (World.cells?_some hc).2.1
  by_cases h0 : len = 0
  · subst h0; exact .inl rfl
  · obtain ⟨cs0, hc0, _⟩ := hi 0 (by omega)
    have hs0 := (World.cells?_some hc0).2.2 0 hC
    have hsp : a.spot = none := by
      obtain ⟨_, hl0, hat⟩ := World.cells?_some hc0
      have h1 := hat 0 hC
      rw [Nat.zero_mul] at h1
      have h2 : (a.add 0).add 0 = a := rfl
      rw [h2, List.getElem?_eq_getElem (by omega)] at h1
      unfold World.cell? at h1
      split at h1
      · split at h1
        · cases h1
        · rename_i hn
          cases hsp : a.spot with
          | none => rfl
          | some q => rw [hsp] at hn; simp at hn
      · cases h1
    obtain ⟨b, o, q⟩ := a
    simp only at hsp
    subst hsp
    have hadd : ∀ o k, (⟨b, o, none⟩ : Addr).add k = ⟨b, o + k, none⟩ := fun o k => by
      unfold Addr.add
      by_cases hk : k = 0
      · subst hk; rfl
      · simp [hk]
    refine .inr ⟨b, o, rfl, fun j v hj => ?_⟩
    have hlen : ∀ i ∈ List.range len, ((w.cells? base ((⟨b, o, none⟩ : Addr).add (i * P.cellsOf e)) (P.cellsOf e)).getD []).length = P.cellsOf e := fun i him => by
      obtain ⟨cs', hc, _⟩ := hi i (by have := List.mem_range.1 him; omega)
      simp only [hc, Option.getD_some]
      exact (World.cells?_some hc).2.1
    have hjl : j < len * P.cellsOf e := by
      have := (List.getElem?_eq_some_iff.1 hj).1
      rw [flat_length hlen, List.length_range] at this
      exact this
    have hdm : j = j / P.cellsOf e * P.cellsOf e + j % P.cellsOf e := by
      have := Nat.div_add_mod j (P.cellsOf e)
      rw [Nat.mul_comm] at this
      exact this.symm
    have hil : j / P.cellsOf e < len := Nat.div_lt_of_lt_mul (by rw [Nat.mul_comm]; exact hjl)
    have hql : j % P.cellsOf e < P.cellsOf e := Nat.mod_lt _ hC
    rw [hdm, flat_get hlen (x := j / P.cellsOf e) (by simp [hil]) hql] at hj
    obtain ⟨cs', hc, _⟩ := hi (j / P.cellsOf e) (by omega)
    simp only [hc, Option.getD_some] at hj
    have h3 := (World.cells?_some hc).2.2 _ hql
    rw [hj, hadd, hadd] at h3
    have h4 := cl_hp h3
    rw [Nat.add_assoc, ← hdm] at h4
    exact h4
/-- A struct of two or three one-cell fields: the fields' own readings. -/
theorem open_two {spare : Nat → Bool} {held : Bool} {t : TypeId} {f0 f1 : Field} {fuel : Nat} {cs : List Value} {x : DataW H × List MemPlace} (ht : P.underlying t = some (.struct #[f0, f1])) (hc : P.cellsOf t = 2)
    (h0 : f0.offset = 0 ∧ P.cellsOf f0.type = 1) (h1 : f1.offset = 1 ∧ P.cellsOf f1.type = 1) (hsz : Sz P t x.1) (h : DataW.trod enc P w base spare held fuel t cs = some x) :
    ∃ v0 v1 n y0 y1, cs = [v0, v1] ∧ (Sz P f0.type y0.1 ∧ Sz P f1.type y1.1) ∧ DataW.trod enc P w base spare held n f0.type [v0] = some y0 ∧ DataW.trod enc P w base spare held n f1.type [v1] = some y1 := by
  obtain ⟨xs, n, _, rfl, hl, hx, hf⟩ := DataW.trod_struct ht h
  rw [hc] at hl
  match cs, hl with
  | [v0, v1], _ =>
    have e0 := hf 0 f0 rfl
    have e1 := hf 1 f1 rfl
    rw [h0.1, h0.2] at e0
    rw [h1.1, h1.2] at e1
    match xs, hx with
    | [y0, y1], _ => exact ⟨v0, v1, n, y0, y1, rfl, Sz.two ht hsz, e0, e1⟩
theorem open_three {spare : Nat → Bool} {held : Bool} {t : TypeId} {f0 f1 f2 : Field} {fuel : Nat} {cs : List Value} {x : DataW H × List MemPlace} (ht : P.underlying t = some (.struct #[f0, f1, f2])) (hc : P.cellsOf t = 3)
    (h0 : f0.offset = 0 ∧ P.cellsOf f0.type = 1) (h1 : f1.offset = 1 ∧ P.cellsOf f1.type = 1) (h2 : f2.offset = 2 ∧ P.cellsOf f2.type = 1) (hsz : Sz P t x.1) (h : DataW.trod enc P w base spare held fuel t cs = some x) :
    ∃ v0 v1 v2 n y0 y1 y2, cs = [v0, v1, v2] ∧ (Sz P f0.type y0.1 ∧ Sz P f1.type y1.1 ∧ Sz P f2.type y2.1) ∧ DataW.trod enc P w base spare held n f0.type [v0] = some y0 ∧ DataW.trod enc P w base spare held n f1.type [v1] = some y1 ∧ DataW.trod enc P w base spare held n f2.type [v2] = some y2 := by
  obtain ⟨xs, n, _, rfl, hl, hx, hf⟩ := DataW.trod_struct ht h
  rw [hc] at hl
  match cs, hl with
  | [v0, v1, v2], _ =>
    have e0 := hf 0 f0 rfl
    have e1 := hf 1 f1 rfl
    have e2 := hf 2 f2 rfl
    rw [h0.1, h0.2] at e0
    rw [h1.1, h1.2] at e1
    rw [h2.1, h2.2] at e2
    match xs, hx with
    | [y0, y1, y2], _ => exact ⟨v0, v1, v2, n, y0, y1, y2, rfl, Sz.three ht hsz, e0, e1, e2⟩
def chk2 (P : Program) (t a b : Nat) : Bool := Nat.beq (P.cellsOf t) 2 && (match P.underlying t with
  | some (.struct fs) => (match fs.toList with
    | [f0, f1] => Nat.beq f0.type a && Nat.beq f0.offset 0 && Nat.beq (P.cellsOf a) 1 && Nat.beq f1.type b && Nat.beq f1.offset 1 && Nat.beq (P.cellsOf b) 1
    | _ => false)
  | _ => false)
def chk3 (P : Program) (t a b c : Nat) : Bool := Nat.beq (P.cellsOf t) 3 && (match P.underlying t with
  | some (.struct fs) => (match fs.toList with
    | [f0, f1, f2] => Nat.beq f0.type a && Nat.beq f0.offset 0 && Nat.beq (P.cellsOf a) 1 && Nat.beq f1.type b && Nat.beq f1.offset 1 && Nat.beq (P.cellsOf b) 1 && Nat.beq f2.type c && Nat.beq f2.offset 2 && Nat.beq (P.cellsOf c) 1
    | _ => false)
  | _ => false)
theorem opn2 {spare : Nat → Bool} {held : Bool} {t a b : Nat} {fuel : Nat} {cs : List Value} {x : DataW H × List MemPlace} (hc : chk2 P t a b = true) (hsz : Sz P t x.1) (h : DataW.trod enc P w base spare held fuel t cs = some x) :
    ∃ v0 v1 n y0 y1, cs = [v0, v1] ∧ (Sz P a y0.1 ∧ Sz P b y1.1) ∧ DataW.trod enc P w base spare held n a [v0] = some y0 ∧ DataW.trod enc P w base spare held n b [v1] = some y1 := by
  unfold chk2 at hc
  rw [Bool.and_eq_true] at hc
  obtain ⟨hc0, hc⟩ := hc
  split at hc
  · rename_i fs hu
    split at hc
    · rename_i f0 f1 hfs
      have : fs = #[f0, f1] := Array.ext' hfs
      subst this
      simp only [Bool.and_eq_true] at hc
      obtain ⟨⟨⟨⟨⟨h1, h2⟩, h3⟩, h4⟩, h5⟩, h6⟩ := hc
      cases Nat.eq_of_beq_eq_true h1
      cases Nat.eq_of_beq_eq_true h4
      exact open_two hu (Nat.eq_of_beq_eq_true hc0) ⟨Nat.eq_of_beq_eq_true h2, Nat.eq_of_beq_eq_true h3⟩ ⟨Nat.eq_of_beq_eq_true h5, Nat.eq_of_beq_eq_true h6⟩ hsz h
    · cases hc
  · cases hc
theorem opn3 {spare : Nat → Bool} {held : Bool} {t a b c : Nat} {fuel : Nat} {cs : List Value} {x : DataW H × List MemPlace} (hc : chk3 P t a b c = true) (hsz : Sz P t x.1) (h : DataW.trod enc P w base spare held fuel t cs = some x) :
    ∃ v0 v1 v2 n y0 y1 y2, cs = [v0, v1, v2] ∧ (Sz P a y0.1 ∧ Sz P b y1.1 ∧ Sz P c y2.1) ∧ DataW.trod enc P w base spare held n a [v0] = some y0 ∧ DataW.trod enc P w base spare held n b [v1] = some y1 ∧ DataW.trod enc P w base spare held n c [v2] = some y2 := by
  unfold chk3 at hc
  rw [Bool.and_eq_true] at hc
  obtain ⟨hc0, hc⟩ := hc
  split at hc
  · rename_i fs hu
    split at hc
    · rename_i f0 f1 f2 hfs
      have : fs = #[f0, f1, f2] := Array.ext' hfs
      subst this
      simp only [Bool.and_eq_true] at hc
      obtain ⟨⟨⟨⟨⟨⟨⟨⟨h1, h2⟩, h3⟩, h4⟩, h5⟩, h6⟩, h7⟩, h8⟩, h9⟩ := hc
      cases Nat.eq_of_beq_eq_true h1
      cases Nat.eq_of_beq_eq_true h4
      cases Nat.eq_of_beq_eq_true h7
      exact open_three hu (Nat.eq_of_beq_eq_true hc0) ⟨Nat.eq_of_beq_eq_true h2, Nat.eq_of_beq_eq_true h3⟩ ⟨Nat.eq_of_beq_eq_true h5, Nat.eq_of_beq_eq_true h6⟩ ⟨Nat.eq_of_beq_eq_true h8, Nat.eq_of_beq_eq_true h9⟩ hsz h
    · cases hc
  · cases hc
end
end Go.Proofs.YtmelbipidffmpaaGreatDoor.Hw

/- Trees: what comes in, opened. -/
set_option linter.unusedVariables false
set_option linter.unusedSimpArgs false
set_option maxRecDepth 100000
namespace Go.Proofs.YtmelbipidffmpaaGreatDoor.Hw
open Go Go.Proofs
theorem u22 : Tryz.prog.underlying 22 = some (.slice 60) := by kernel_rfl
theorem u25 : Tryz.prog.underlying 25 = some (.slice 64) := by kernel_rfl
theorem u28 : Tryz.prog.underlying 28 = some (.slice 46) := by kernel_rfl
theorem u37 : Tryz.prog.underlying 37 = some (.slice 3) := by kernel_rfl
theorem u44 : Tryz.prog.underlying 44 = some (.slice 64) := by kernel_rfl
theorem u62 : Tryz.prog.underlying 62 = some (.int .i64) := by kernel_rfl
theorem u9 : Tryz.prog.underlying 9 = some .string := by kernel_rfl
theorem u4 : Tryz.prog.underlying 4 = some .bool := by kernel_rfl
theorem u3 : Tryz.prog.underlying 3 = some (.int .i64) := by kernel_rfl
theorem k24 : chk3 Tryz.prog 24 22 3 3 = true := by kernel_rfl
theorem k60 : chk2 Tryz.prog 60 28 37 = true := by kernel_rfl
theorem k46 : chk2 Tryz.prog 46 44 3 = true := by kernel_rfl
theorem k64 : chk3 Tryz.prog 64 62 3 9 = true := by kernel_rfl
theorem z60 : Tryz.prog.cellsOf 60 = 2 := by kernel_rfl
theorem z46 : Tryz.prog.cellsOf 46 = 2 := by kernel_rfl
theorem z64 : Tryz.prog.cellsOf 64 = 3 := by kernel_rfl
theorem z3 : Tryz.prog.cellsOf 3 = 1 := by kernel_rfl
theorem y60 : 0 < Tryz.prog.bytesOf 60 := of_decide_eq_true (by kernel_rfl)
theorem y46 : Tryz.prog.bytesOf 46 = 32 := by kernel_rfl
theorem y64 : 0 < Tryz.prog.bytesOf 64 := of_decide_eq_true (by kernel_rfl)
theorem y3 : 0 < Tryz.prog.bytesOf 3 := of_decide_eq_true (by kernel_rfl)
section
variable {X : Type} {enc : TypeId × Value → X} {w : World} {base : Nat} {spare : Nat → Bool} {held : Bool} {fuel : Nat} {cs : List Value} {x : DataW X × List MemPlace}
theorem flat_choose {α : Type} {f : Nat → List Value} {g : α → List Value} : ∀ {n : Nat}, (∀ i, i < n → ∃ a, f i = g a) → ∃ l : List α, l.length = n ∧ (List.range n).flatMap f = l.flatMap g
  | 0, _ => ⟨[], rfl, rfl⟩
  | n + 1, h => by
    obtain ⟨l, h1, h2⟩ := flat_choose (n := n) (fun i hi => h i (by omega))
    obtain ⟨a, ha⟩ := h n (by omega)
    refine ⟨l ++ [a], by simp [h1], ?_⟩
    rw [List.range_succ, List.flatMap_append, List.flatMap_append, h2]
    simp [ha]
theorem open_str (hsz : Sz Tryz.prog 9 x.1) (h : DataW.trod enc Tryz.prog w base spare held fuel 9 cs = some x) : ∃ s : ByteArray, cs = [.string s] ∧ s.size < huge := by
  obtain ⟨s, rfl, hx, _⟩ := DataW.trod_string u9 h
  refine ⟨s, rfl, ?_⟩
  rw [hx] at hsz
  have := hsz s.data.toList.length (by unfold DataW.weights; exact List.mem_singleton.2 rfl)
  have hl : s.size = s.data.toList.length := by rw [Array.length_toList]; rfl
  rw [← hl] at this
  unfold reachBytes at this
  unfold huge; omega
theorem open_cap {t e : TypeId} {A : Option Addr} {n c : Nat} (ht : Tryz.prog.underlying t = some (.slice e)) (h : DataW.trod enc Tryz.prog w base spare held fuel t [.slice A n c] = some x) : n ≤ c := by
  rcases Go.Deep.open_slice ht h with ⟨e, _⟩ | ⟨a, len, cap, m, n', D, Pl, e, hb, hl, _⟩
  · cases e; exact Nat.le_refl _
  · cases e; exact hl
theorem open_wt {t e : TypeId} {A : Option Addr} {n c : Nat} (ht : Tryz.prog.underlying t = some (.slice e)) (hsz : Sz Tryz.prog t x.1) (h : DataW.trod enc Tryz.prog w base spare held fuel t [.slice A n c] = some x) : n * Tryz.prog.bytesOf e ≤ reachBytes := by
  rcases Go.Deep.open_slice ht h with ⟨e, _⟩ | ⟨a, len, cap, m, n', D, Pl, e, hb, hl, hm, hmm, hx, hi⟩
  · cases e; omega
  · cases e
    have hlm : n ≤ m := by rw [hmm]; split <;> omega
    rw [hx] at hsz
    unfold Sz at hsz
    simp only [DataW.weights, ht, List.length_map, List.length_range, List.mem_cons, List.mem_append] at hsz
    exact Nat.le_trans (Nat.mul_le_mul_right _ (by omega)) (hsz _ (.inl rfl))
theorem open_vals {t : TypeId} (ht : Tryz.prog.underlying t = some (.slice 64)) (hsz : Sz Tryz.prog t x.1) (h : DataW.trod enc Tryz.prog w base spare held fuel t cs = some x) : ∃ A n c l, cs = [.slice A n c] ∧ SlAt vlC (hpOf w) A n l ∧ TxS l ∧ n ≤ c := by
  obtain ⟨A, n, c, f, rfl, hm, hc, hf⟩ := open_cells ht (by rw [z64]; decide) y64 hsz h
  obtain ⟨l, h1, h2⟩ := flat_choose (α := {r : Vl // r.txt.size < huge}) (g := fun r => vlC r.1) (n := n) (f := f) fun i hi => by
    obtain ⟨_, m, y, hys, hy⟩ := hf i hi
    obtain ⟨v0, v1, v2, m', y0, y1, y2, e, ⟨_, _, hs2⟩, e0, e1, e2⟩ := opn3 k64 hys hy
    obtain ⟨a, ha, _⟩ := DataW.trod_int u62 e0
    obtain ⟨b, hb, _⟩ := DataW.trod_int u3 e1
    obtain ⟨s, hs, hsl⟩ := open_str hs2 e2
    cases hs; cases ha; cases hb
    exact ⟨⟨⟨a, b, s⟩, hsl⟩, e⟩
  refine ⟨A, n, c, l.map (·.1), rfl, ⟨by simp [h1], ?_, ?_⟩, fun r hr => ?_, open_cap ht h⟩
  · rw [h2] at hc
    rw [List.flatMap_map]; exact hc
  · rw [List.length_map, h1]; unfold huge; unfold reachBytes at hm; omega
  · obtain ⟨q, _, rfl⟩ := List.mem_map.1 hr
    have := q.2
    unfold huge at this; omega
theorem open_ents (hsz : Sz Tryz.prog 28 x.1) (h : DataW.trod enc Tryz.prog w base spare held fuel 28 cs = some x) : ∃ A n c l, cs = [.slice A n c] ∧ SlAt enC (hpOf w) A n l ∧ (∀ e ∈ l, KeyAt (hpOf w) e) ∧ n ≤ c ∧ n ≤ 4398046510976 := by
  obtain ⟨A, n, c, f, rfl, hm, hc, hf⟩ := open_cells u28 (by rw [z46]; decide) (by rw [y46]; decide) hsz h
  obtain ⟨l, h1, h2⟩ := flat_choose (α := {e : EnM // KeyAt (hpOf w) e}) (g := fun r => enC r.1) (n := n) (f := f) fun i hi => by
    obtain ⟨_, m, y, hys, hy⟩ := hf i hi
    obtain ⟨v0, v1, m', y0, y1, e, ⟨hs0, _⟩, e0, e1⟩ := opn2 k46 hys hy
    obtain ⟨A', n', c', l', ha, g1, g2, g3⟩ := open_vals u44 hs0 e0
    obtain ⟨b, hb, _⟩ := DataW.trod_int u3 e1
    cases ha; cases hb
    have hn := g1.len
    subst hn
    exact ⟨⟨⟨A', c', l', b⟩, g1, g3, g2⟩, e⟩
  have hw := open_wt u28 hsz h
  rw [y46] at hw
  refine ⟨A, n, c, l.map (·.1), rfl, ⟨by simp [h1], ?_, ?_⟩, fun r hr => ?_, open_cap u28 h, by unfold reachBytes at hw; omega⟩
  · rw [h2] at hc
    rw [List.flatMap_map]; exact hc
  · rw [List.length_map, h1]; unfold huge; unfold reachBytes at hm; omega
  · obtain ⟨q, _, rfl⟩ := List.mem_map.1 hr
    exact q.2
theorem open_nums {t : TypeId} (ht : Tryz.prog.underlying t = some (.slice 3)) (hsz : Sz Tryz.prog t x.1) (h : DataW.trod enc Tryz.prog w base spare held fuel t cs = some x) : ∃ A n c l, cs = [.slice A n c] ∧ SlAt inC (hpOf w) A n l := by
  obtain ⟨A, n, c, f, rfl, hm, hc, hf⟩ := open_cells ht (by rw [z3]; decide) y3 hsz h
  obtain ⟨l, h1, h2⟩ := flat_choose (g := inC) (n := n) (f := f) fun i hi => by
    obtain ⟨_, m, y, hys, hy⟩ := hf i hi
    obtain ⟨k, hk, _⟩ := DataW.trod_int u3 hy
    exact ⟨k, hk⟩
  refine ⟨A, n, c, l, rfl, ⟨h1.symm, by rw [← h2]; exact hc, ?_⟩⟩
  rw [h1]; unfold huge; unfold reachBytes at hm; omega
theorem open_blocks (hsz : Sz Tryz.prog 22 x.1) (h : DataW.trod enc Tryz.prog w base spare held fuel 22 cs = some x) : ∃ A n c bl, cs = [.slice A n c] ∧ TrAt (hpOf w) A n bl ∧ Fewish bl := by
  obtain ⟨A, n, c, f, rfl, hm, hc, hf⟩ := open_cells u22 (by rw [z60]; decide) y60 hsz h
  obtain ⟨l, h1, h2⟩ := flat_choose (α := {b : NdM // NdAt (hpOf w) b ∧ b.es.length ≤ 4398046510976}) (g := fun r => ndC r.1) (n := n) (f := f) fun i hi => by
    obtain ⟨_, m, y, hys, hy⟩ := hf i hi
    obtain ⟨v0, v1, m', y0, y1, e, ⟨hs0, hs1⟩, e0, e1⟩ := opn2 k60 hys hy
    obtain ⟨A', n', c', l', ha, g1, g2, g3, g4⟩ := open_ents hs0 e0
    obtain ⟨B', k', d', q', hb, r1⟩ := open_nums u37 hs1 e1
    cases ha; cases hb
    have hn := g1.len
    subst hn
    have hk := r1.len
    subst hk
    exact ⟨⟨⟨A', c', l', B', d', q'⟩, ⟨g1, g3, r1, g2⟩, g4⟩, e⟩
  refine ⟨A, n, c, l.map (·.1), rfl, ⟨⟨by simp [h1], ?_, ?_⟩, fun b hb => ?_⟩, fun b hb => ?_⟩
  · rw [h2] at hc
    rw [List.flatMap_map]; exact hc
  · rw [List.length_map, h1]; unfold huge; unfold reachBytes at hm; omega
  · obtain ⟨q, _, rfl⟩ := List.mem_map.1 hb
    exact q.2.1
  · obtain ⟨q, _, rfl⟩ := List.mem_map.1 hb
    exact q.2.2
theorem open_tree (hsz : Sz Tryz.prog 24 x.1) (h : DataW.trod enc Tryz.prog w base spare held fuel 24 cs = some x) : ∃ A n c root cols bl, cs = [.slice A n c, .int .i64 root, .int .i64 cols] ∧ TrAt (hpOf w) A n bl ∧ Fewish bl := by
  obtain ⟨v0, v1, v2, m, y0, y1, y2, rfl, ⟨hs0, hs1, hs2⟩, e0, e1, e2⟩ := opn3 k24 hsz h
  obtain ⟨A, n, c, bl, h0, g0, g1⟩ := open_blocks hs0 e0
  obtain ⟨a, ha, _⟩ := DataW.trod_int u3 e1
  obtain ⟨b, hb, _⟩ := DataW.trod_int u3 e2
  cases h0; cases ha; cases hb
  exact ⟨A, n, c, a, b, bl, rfl, g0, g1⟩
end
open Go.ChangeShapes Go.WideShapes Go.ChangeAt Go.RowKit
theorem ownK : ownKnob Tryz.prog.godebug = none := by kernel_rfl
theorem cellsB_prog : cellsB Tryz.prog = true := by kernel_rfl
def isStruct (d : Option TypeDesc) : Bool := match d with | some (.struct _) => true | _ => false
theorem s24 : isStruct (Tryz.prog.underlying 24) = true := by kernel_rfl
theorem agg_of {P : Program} {W : World} {base : Nat} {t : TypeId} {v : Value} {l : List Value} (hs : isStruct (P.underlying t) = true) (h : Value.okWide P W .any base t v) (hc : v.cells.toList = l) : v = .agg l.toArray := by
  cases hu : P.underlying t with
  | none => rw [hu] at hs; cases hs
  | some d =>
    cases d
    case struct fs =>
      obtain ⟨cs, rfl, _⟩ := okWide_struct hu h
      rw [← hc]; rfl
    all_goals (rw [hu] at hs; cases hs)
/-- A Boolean result's reading. -/
theorem res_bool {X : Type} {enc : TypeId × Value → X} {W : World} (b : Nat) (sp : Nat → Bool) (hd : Bool) (x : Bool) : DataW.TrodAll enc Tryz.prog W b sp hd [4] [.bool x] [.lit (.bool x)] [] :=
  trodAll_mk1 ⟨1, by simp only [DataW.trod, Value.cells, u4]⟩
theorem ok_bool {W : World} (x : Bool) : Value.okWide Tryz.prog W .any 0 4 (.bool x) := by
  unfold Value.okWide; rw [u4]; simp only [Cell.okWide, u4]; exact trivial
theorem slice_of {P : Program} {W : World} {base : Nat} {t e : TypeId} {v : Value} {A : Option Addr} {n c : Nat} (hs : P.underlying t = some (.slice e)) (h : Value.okWide P W .any base t v) (hc : v.cells.toList = [.slice A n c]) : v = .slice A n c := by
  simp only [Value.okWide, hs, Cell.okWide] at h
  cases v <;> simp_all [Cell.ok, Value.cells]
/-- What the row wants to hear of a result that is a Boolean. -/
theorem ok_bools {W : World} {f : Func} (hf : f.resultTypes = #[4]) (x : Bool) : ∀ (j : Nat) (t : TypeId) (r : Value), f.resultTypes[j]? = some t → ((Value.bool x).resultList f.resultTypes.size)[j]? = some r → Value.okWide Tryz.prog W .any 0 t r := by
  intro j t r h1 h2
  rw [hf] at h1 h2
  match j with
  | 0 =>
    cases (h1 : some 4 = some t)
    cases (h2 : some (Value.bool x) = some r)
    exact ok_bool x
  | j + 1 => cases h1
/-! ### the one variable -/
theorem nullN : Tryz.prog.globalNamed "justiciar/value.Null" = some 0 := by kernel_rfl
theorem nullT : (Tryz.prog.globals[0]?).map (·.type) = some 64 := by kernel_rfl
def theLaid : List (String × DataW Unit) := [("justiciar/value.Null", Rows.laid_justiciar_value_Null)]
theorem null_of_laid {W : World} (h : laidMet Tryz.prog theLaid W) : NullAt (hpOf W) := by
  obtain ⟨ps, ⟨g, t, cs, fuel, p, q, hg, ht, hvar, hd, _, _⟩, _⟩ := h
  obtain rfl := Option.some.inj (nullN.symm.trans hg)
  obtain rfl := Option.some.inj (nullT.symm.trans ht)
  have hk := k64
  unfold chk3 at hk
  rw [Bool.and_eq_true] at hk
  obtain ⟨hk0, hk⟩ := hk
  split at hk
  · rename_i fs hu
    split at hk
    · rename_i f0 f1 f2 hfs
      have : fs = #[f0, f1, f2] := Array.ext' hfs
      subst this
      simp only [Bool.and_eq_true] at hk
      obtain ⟨⟨⟨⟨⟨⟨⟨⟨h1, h2⟩, h3⟩, h4⟩, h5⟩, h6⟩, h7⟩, h8⟩, h9⟩ := hk
      have a0 := Nat.eq_of_beq_eq_true h1
      have a1 := Nat.eq_of_beq_eq_true h4
      have a2 := Nat.eq_of_beq_eq_true h7
      have b0 := Nat.eq_of_beq_eq_true h2
      have b1 := Nat.eq_of_beq_eq_true h5
      have b2 := Nat.eq_of_beq_eq_true h8
      have c0 := Nat.eq_of_beq_eq_true h3
      have c1 := Nat.eq_of_beq_eq_true h6
      have c2 := Nat.eq_of_beq_eq_true h9
      obtain ⟨xs, n, _, hx, hlen, hxl, hf⟩ := DataW.trod_struct hu hd
      rw [z64] at hlen
      have e0 := hf 0 f0 rfl
      have e1 := hf 1 f1 rfl
      have e2 := hf 2 f2 rfl
      rw [a0, b0, c0] at e0
      rw [a1, b1, c1] at e1
      rw [a2, b2, c2] at e2
      generalize hcl : cs.toList = l at *
      match l, hlen, xs, hxl with
      | [v0, v1, v2], _, [y0, y1, y2], _ =>
        obtain ⟨o0, g0, w0, _⟩ := DataW.trod_int u62 e0
        obtain ⟨o1, g1, w1, _⟩ := DataW.trod_int u3 e1
        obtain ⟨s, g2, w2, _⟩ := DataW.trod_string u9 e2
        obtain ⟨hx1, _⟩ := Prod.mk.inj hx
        have hx1 : DataW.agg [.lit (.int .i64 0), .lit (.int .i64 0), .lit (.string [])] = DataW.agg [y0.1, y1.1, y2.1] := hx1
        injection hx1 with hx1
        injection hx1 with q0 hx1
        injection hx1 with q1 hx1
        injection hx1 with q2 _
        rw [show y0.1 = _ from congrArg Prod.fst w0] at q0
        rw [show y1.1 = _ from congrArg Prod.fst w1] at q1
        rw [show y2.1 = _ from congrArg Prod.fst w2] at q2
        have r0 : o0 = 0 := by simpa using q0.symm
        have r1 : o1 = 0 := by simpa using q1.symm
        have r2 : s.data.toList = [] := by simpa using q2.symm
        have r2 : s = { data := #[] } := by
          cases s with
          | mk d => simp at r2; rw [r2]
        have g0 : v0 = .int .i64 o0 := by simpa using g0
        have g1 : v1 = .int .i64 o1 := by simpa using g1
        have g2 : v2 = .string s := by simpa using g2
        subst r0 r1 r2
        have hcs : cs = #[v0, v1, v2] := Array.ext' hcl
        subst hcs
        rw [g0, g1, g2] at hvar
        exact ⟨cl_hp (by simpa using World.var?_cell hg hvar 0), cl_hp (by simpa using World.var?_cell hg hvar 1), cl_hp (by simpa using World.var?_cell hg hvar 2)⟩
    · cases hk
  · cases hk
theorem laid_met (os : Os) (args : Array Value) : laidMet Tryz.prog theLaid ((World.holding Tryz.prog os ⟨#[], #[], []⟩).forCall (fun _ _ => 0) ⟨#[], args, []⟩).memory :=
  laidMet_of_run (ps := [.cell 0 0, .cell 0 1, .cell 0 2]) 8 (by kernel_rfl) (by kernel_rfl) (by kernel_rfl)
end Go.Proofs.YtmelbipidffmpaaGreatDoor.Hw

/- The rows TreeTells, TreeWays and TreeFinds; awake is asked for. -/
set_option linter.unusedVariables false
set_option linter.unusedSimpArgs false
set_option maxRecDepth 100000
namespace Go.Proofs.YtmelbipidffmpaaGreatDoor
open Go.ChangeShapes Go.WideShapes Go.ChangeAt Go.RowKit
open Hw
theorem tells_lifted (aw : Awake) (os : Os) (started : os.Started) (H : Type) (enc : TypeId × Value → H) :
    ReturnsInHanded {} Tryz.checked os 3 .any (fun w args => (Rows.treeTellsSpec.pre enc Tryz.prog Tryz.f3 Rows.treeTellsRow.domain false w args ∧ laidMet Tryz.prog Rows.treeTellsRow.laid w) ∧ sizedMet enc Tryz.prog Tryz.f3 (OpenSpec.ofChange Rows.treeTellsSpec) false w args)
      (Rows.treeTellsSpec.post enc Tryz.prog Tryz.f3 Rows.treeTellsRow.apart Rows.treeTellsRow.fresh Rows.treeTellsRow.handsOn Rows.treeTellsRow.again) := by
  refine returnsInHanded_of_change_and (C := Tryz.checked) (X := fun w _ => laidMet Tryz.prog theLaid w) (fun _ _ _ hh h => h.of_heap hh) ownK started (by kernel_rfl) Tryz.func3
    (ChangeSpec.witness_at (enc := enc) (C := Tryz.checked) (os := os) (X := fun w _ => laidMet Tryz.prog theLaid w) false (World.holding Tryz.prog os ⟨#[], #[], []⟩) #[.agg #[.slice none 0 0, .int .i64 0, .int .i64 0], .slice none 0 0] 8 rfl (by kernel_rfl) (by kernel_rfl) (by kernel_rfl) (by kernel_rfl) (by kernel_rfl) (laid_met os _)) ?_
  intro W base args ds gs before hval0 hW hcnd hsz0 hL _
  have hval : ∀ (j : Nat) t v, Tryz.f3.params[j]? = some t → args[j]? = some v → Value.okWide Tryz.prog W .any base t v := hval0
  have hsz : (DataW.weightsEach Tryz.prog (Tryz.f3.params.toList ++ Rows.treeTellsSpec.plain.varTypes Tryz.prog) (ds ++ gs)).all (· ≤ reachBytes) = true := hsz0
  have hW' := hW
  obtain ⟨p, q, hA0, hV, rfl, hfz, hnd⟩ := hW
  have hA : DataW.TrodAll enc Tryz.prog W 0 (fun _ => true) true Tryz.f3.params.toList args.toList ds p := hA0
  rw [Tryz.params3] at hA hval hsz
  obtain ⟨v0, v1, d0, d1, p0, p1, rfl, rfl, rfl, h0, h1⟩ := trodAll_two hA
  obtain ⟨rfl, rfl⟩ := trodVars_none hV
  have hs0 : Sz Tryz.prog 24 d0 := fun n hn => by
    have := List.all_eq_true.1 hsz n (DataW.weights_mem_each (j := 0) rfl rfl n hn)
    exact of_decide_eq_true this
  have hs1 : Sz Tryz.prog 25 d1 := fun n hn => by
    have := List.all_eq_true.1 hsz n (DataW.weights_mem_each (j := 1) rfl rfl n hn)
    exact of_decide_eq_true this
  obtain ⟨fl0, e0⟩ := h0
  obtain ⟨fl1, e1⟩ := h1
  obtain ⟨A, n, c, root, cols, bl, hc0, hT, hF⟩ := open_tree hs0 e0
  obtain ⟨kA, kn, kc, key, hc1, hS, tS, _⟩ := open_vals u25 hs1 e1
  have g0 := agg_of s24 (hval 0 24 v0 rfl rfl) hc0
  have g1 := slice_of u25 (hval 1 25 v1 rfl rfl) hc1
  subst g0
  subst g1
  have key := c3 (kc := kc) (c := c) (root := root) (cols := cols) (Q := fun v H' => v = .bool true ∧ Ext (hpOf W) H') aw (null_of_laid hL) hT hF hS tS (fun H' hx => ⟨rfl, hx⟩) W (fun b o h => h)
  refine Calls.mono key ?_
  rintro e W' ⟨v, H', rfl, ⟨rfl, hx⟩, hh, hf, _⟩
  refine ⟨_, rfl, post_look (f := Tryz.f3) cellsB_prog (by rw [Tryz.params3]; decide) hW' rfl rfl rfl (fun b sp hd => ?_) (fun b o h => hh b o (hx b o h)) hf.1 hf.2.2.1 ?_⟩
  · exact res_bool b sp hd true
  · exact ok_bools rfl true
theorem tells_row (aw : Awake) : Rows.TreeTellsSaid :=
  OpenClaim.holds_of_wide 3 Tryz.f3 rfl rfl rfl rfl rfl rfl rfl ⟨rfl, rfl, rfl, rfl, rfl⟩ rfl rfl rfl rfl rfl (by kernel_rfl) Tryz.func3 (by kernel_rfl)
    (of_decide_eq_true (by kernel_rfl)) (by unfold Func.isWrapper; first | (rw [if_pos (by decide +kernel)]; kernel_rfl) | (rw [if_neg (by decide +kernel)]; exact ⟨rfl, rfl⟩))
    (fun os started H enc _ => tells_lifted aw os started H enc)
theorem wants24 : Tryz.prog.wantsStandIn 24 = false := by kernel_rfl
theorem wants25 : Tryz.prog.wantsStandIn 25 = false := by kernel_rfl
theorem tells_card (aw : Awake) : Rows.TreeTellsCardSaid :=
  Claim7.holds_tied_plain_at .later [] [.data] true (true, "23305348b4ba4c31fb5a626f45f9e6925a27ab1b066bd0b37f3c06df2b996abf") false
    (tells_row aw) (fun _ h => by cases h) (by kernel_rfl) (fun _ h => by cases h) treeTells_row_tie rfl ⟨rfl, rfl⟩ (by kernel_rfl) rfl
    (fun f fn hf hfn => by
      obtain rfl : f = 3 := Option.some.inj ((show Tryz.prog.funcNamed "justiciar/justiciarlaw17.TreeTells" = some 3 by kernel_rfl).symm.trans hf) |>.symm
      obtain rfl : fn = Tryz.f3 := (Option.some.inj (Tryz.func3.symm.trans hfn)).symm
      exact ⟨by kernel_rfl, fun j t ht => by
        rw [Tryz.params3] at ht
        rcases j with _ | _ | j
        · cases (Option.some.inj ht); exact wants24
        · cases (Option.some.inj ht); exact wants25
        · simp at ht⟩)
    (by kernel_rfl)
end Go.Proofs.YtmelbipidffmpaaGreatDoor

/- What functions of the program come to, by the evaluator: printed by a program of this session (gen.py) and checked here. -/
set_option linter.unusedVariables false
set_option maxRecDepth 100000
namespace Go.Proofs.YtmelbipidffmpaaGreatDoor.Hw
open Go Go.Proofs

end Go.Proofs.YtmelbipidffmpaaGreatDoor.Hw
