/- Bm HwFe Bn Bo HwRow Bp Bq Br Bs (joined by merge.py) -/
import Derived.Test.YtmelbipidffmpaaGreatDoorTt5
import Derived.Test.YtmelbipidffmpaaGreatDoorTt3
import Derived.ChangeReads
import Derived.ChangeSame
import Derived.Deep.Slices
import Derived.SizedLaws
import Derived.Test.YtmelbipidffmpaaGreatDoorRows
import Derived.ProofKit
import Derived.OpenShut
import Derived.LaidLaws
import Derived.Handed
import Derived.Test.YtmelbipidffmpaaGreatDoorTie
import Derived.Test.YtmelbipidffmpaaGreatDoorCards
/- Trees: Between and Find, of both. -/
set_option linter.unusedVariables false
set_option linter.unusedSimpArgs false
set_option linter.unusedSectionVars false
set_option maxRecDepth 20000
namespace Go.Proofs.YtmelbipidffmpaaGreatDoor.Hw
open Go Go.Proofs
theorem good_lt {cols : Int} {l : List EnM} (h : goodE cols l = true) : ∀ {i j : Nat} {a b : EnM}, i < j → l[i]? = some a → l[j]? = some b → ordE a b < 0
  | i, 0, _, _, hij, _, _ => by omega
  | i, j + 1, a, b, hij, ha, hb => by
    have hlt := (List.getElem?_eq_some_iff.1 hb).1
    obtain ⟨d, hd⟩ := get_of (l := l) (i := j) (by omega)
    have hok := List.all_eq_true.1 h (j + 1) (List.mem_range.2 hlt)
    unfold okAt at hok
    rw [hb] at hok
    simp only [Bool.and_eq_true] at hok
    have h2 := hok.2
    rw [if_neg (by omega), Nat.add_sub_cancel, hd] at h2
    have h2 : ordE d b < 0 := of_decide_eq_true h2
    by_cases e : i = j
    · subst e; rw [ha] at hd; cases hd; exact h2
    · exact ordE_ok.lt_of (good_lt h (by omega) ha hd) (by omega)
theorem good_le {cols : Int} {l : List EnM} (h : goodE cols l = true) {i j : Nat} {a b : EnM} (hij : i ≤ j) (ha : l[i]? = some a) (hb : l[j]? = some b) : ordE a b ≤ 0 := by
  by_cases e : i = j
  · subst e; rw [ha] at hb; cases hb; rw [ordE_ok.self]; omega
  · have := good_lt h (show i < j by omega) ha hb; omega
def passE (low high : List Vl) (e : EnM) : Bool := !decide (cmpK e low < 0) && decide (cmpK e high ≤ 0)
def betw (l : List EnM) (low high : List Vl) : List Int := (l.filter (passE low high)).map EnM.id
def turned (back : Bool) (l : List Int) : List Int := if back = true then l.reverse else l
def betT (t : Option Sv) (cols : Int) (low high : List Vl) (back : Bool) : List Int × Int := match t with
  | none => ([], 2)
  | some S => if (keyG 0 cols low && keyG 0 cols high) = true then (turned back (betw S.out low high), 0) else ([], 2)
theorem tw_lt {α : Type} {p : α → Bool} : ∀ {l : List α} {i : Nat} {a : α}, i < (l.takeWhile p).length → l[i]? = some a → p a = true
  | [], i, a, h, _ => by simp at h
  | x :: r, 0, a, h, ha => by
    have : x = a := by simpa using ha
    subst this
    cases hp : p x with
    | true => rfl
    | false => rw [List.takeWhile_cons, hp] at h; simp at h
  | x :: r, i + 1, a, h, ha => by
    cases hp : p x with
    | true =>
      rw [List.takeWhile_cons, hp] at h
      exact tw_lt (l := r) (i := i) (by simpa using h) (by simpa using ha)
    | false => rw [List.takeWhile_cons, hp] at h; simp at h
theorem tw_at {α : Type} {p : α → Bool} : ∀ {l : List α} {a : α}, l[(l.takeWhile p).length]? = some a → p a = false
  | [], a, h => by simp at h
  | x :: r, a, h => by
    cases hp : p x with
    | true =>
      rw [List.takeWhile_cons, hp] at h
      exact tw_at (l := r) (by simpa using h)
    | false =>
      rw [List.takeWhile_cons, hp] at h
      have : x = a := by simpa using h
      rw [← this]; exact hp
theorem tw_ge {α : Type} {p : α → Bool} {l : List α} (hm : ∀ (i j : Nat) (a b : α), i ≤ j → l[i]? = some a → l[j]? = some b → p b = true → p a = true) {i : Nat} {a : α} (h : (l.takeWhile p).length ≤ i) (ha : l[i]? = some a) : p a = false := by
  cases hp : p a with
  | false => rfl
  | true =>
    obtain ⟨b, hb⟩ := get_of (l := l) (i := (l.takeWhile p).length) (by have := (List.getElem?_eq_some_iff.1 ha).1; omega)
    have := hm _ i b a h hb ha hp
    rw [tw_at hb] at this; cases this
theorem tw_le {α : Type} {p : α → Bool} : ∀ {l : List α}, (l.takeWhile p).length ≤ l.length
  | [] => by simp
  | x :: r => by
    rw [List.takeWhile_cons]
    split
    · have := tw_le (p := p) (l := r); simp; omega
    · simp
theorem betw_snoc {l : List EnM} {low high : List Vl} {i : Nat} {e : EnM} (he : l[i]? = some e) : betw (l.take (i + 1)) low high = if passE low high e = true then betw (l.take i) low high ++ [e.id] else betw (l.take i) low high := by
  unfold betw
  rw [take_snoc he, List.filter_append, List.map_append]
  cases h : passE low high e <;> simp [h]
theorem betw_none {l : List EnM} {low high : List Vl} (h : ∀ e ∈ l, passE low high e = false) : betw l low high = [] := by
  unfold betw
  rw [List.filter_eq_nil_iff.2 (fun e he => by rw [h e he]; decide)]; rfl
theorem betw_rest {l : List EnM} {low high : List Vl} {k : Nat} (h : ∀ i e, k ≤ i → l[i]? = some e → passE low high e = false) : betw l low high = betw (l.take k) low high := by
  conv => lhs; rw [← List.take_append_drop k l]
  have : betw (l.drop k) low high = [] := betw_none fun e he => by
    obtain ⟨i, hi⟩ := List.mem_iff_getElem?.1 he
    rw [List.getElem?_drop] at hi
    exact h _ e (by omega) hi
  unfold betw at this ⊢
  rw [List.filter_append, List.map_append, this, List.append_nil]
theorem betw_len {l : List EnM} {low high : List Vl} : (betw l low high).length ≤ l.length := by
  unfold betw
  rw [List.length_map]
  exact List.length_filter_le _ _
section
variable {H0 H : Hp} {A oA kA lA : Option Addr} {n c oc kn kc ln lc : Nat} {root cols : Int} {S : Sv} {Q : Value → Hp → Prop} {bl : List NdM} {low high : List Vl} {back : Bool}
theorem c23 (N : NullAt H) (hT : TrAt H A n bl) (hF : Fewish bl) (hL : SlAt vlC H lA ln low) (hS : SlAt vlC H kA kn high)
    (hq : ∀ A' c' H', Ext H H' → RowI H H' A' c' (betT (treeV bl root cols) cols low high back).1 → Q (.tuple #[.slice A' (betT (treeV bl root cols) cols low high back).1.length c', .int .i64 (betT (treeV bl root cols) cols low high back).2]) H') :
    HCalls Tryz.prog 23 [.agg #[.slice A n c, .int .i64 root, .int .i64 cols], .slice lA ln lc, .slice kA kn kc, .bool back] H Q := by
  refine f23.ok _ _ _ _ _ _ _ _ _ _ _ _ ?_
  unfold f23
  obtain rfl := hL.len
  obtain rfl := hS.len
  refine c36 N hT hF (fun h H2 hx => ⟨_, _, rfl, ?_⟩) fun S h hl hk g gs oA oc H2 W => ⟨_, _, rfl, ?_⟩
  · refine jn_intro (fun J => ∀ H', Ext H H' → J true H') (fun H12 x12 => cndT rfl ?_) fun J hJ => cndT rfl (hJ H2 hx)
    rw [h] at hq
    exact hq none 0 H12 x12 Row.nil
  rw [h] at hq
  have hob : S.out.length < huge := by unfold huge; omega
  obtain ⟨hs, hgd, _⟩ := tree_of h
  have hent := good_ent hgd
  have hW := W.ext
  have hd : betT (some S) cols low high back = if (keyG 0 cols low && keyG 0 cols high) = true then (turned back (betw S.out low high), 0) else ([], 2) := rfl
  rw [hd] at hq
  refine jn_intro (fun J => ((keyG 0 cols low && keyG 0 cols high) = false → ∀ H', Ext H H' → J true H') ∧ ((keyG 0 cols low && keyG 0 cols high) = true → ∀ H', Ext H2 H' → J false H')) ⟨fun hg H12 x12 => cndT rfl (by rw [hg] at hq; exact hq none 0 H12 x12 Row.nil), fun hg H12 x12 => cndF rfl ?_⟩ fun J hJ => cndF rfl ?_
  rotate_left
  · unfold keyG at hJ
    have z1 : decide ((0 : Int) ≤ ((low.length : Nat) : Int)) = true := decide_eq_true (by omega)
    have z2 : decide ((0 : Int) ≤ ((high.length : Nat) : Int)) = true := decide_eq_true (by omega)
    rw [z1, z2, Bool.true_and, Bool.true_and] at hJ
    refine cndI (fun h1 => ?_) fun h1 => cndI (fun h2 => ?_) fun h2 => c40 (N.ext hW) (hL.ext hW) ⟨_, rfl, cndI (fun h3 => ?_) fun h3 => c40 (N.ext hW) (hS.ext hW) ⟨_, rfl, ?_⟩⟩
    · have h1 := of_decide_eq_true h1
      exact hJ.1 (by rw [decide_eq_false (by omega)]; rfl) H2 hW
    · have h2 := of_decide_eq_true h2
      refine hJ.1 ?_ H2 hW
      rw [decide_eq_false (p := ((high.length : Nat) : Int) ≤ cols) (by omega)]; simp
    · rw [Bool.not_eq_true'] at h3
      refine hJ.1 ?_ H2 hW
      rw [h3]; simp
    · have h1 := of_decide_eq_false h1
      have h2 := of_decide_eq_false h2
      rw [Bool.not_eq_false'] at h3
      rw [decide_eq_true (p := ((low.length : Nat) : Int) ≤ cols) (by omega), decide_eq_true (p := ((high.length : Nat) : Int) ≤ cols) (by omega), h3] at hJ
      cases hv : validL high with
      | true => exact hJ.2 (by rw [hv]; rfl) H2 (Ext.refl _)
      | false => exact hJ.1 (by rw [hv]; rfl) H2 hW
  rw [if_pos hg] at hq
  have hlo : ((low.length : Nat) : Int) ≤ cols := by unfold keyG at hg; simp only [Bool.and_eq_true, decide_eq_true_eq] at hg; exact hg.1.2.1
  have hhi : ((high.length : Nat) : Int) ≤ cols := by unfold keyG at hg; simp only [Bool.and_eq_true, decide_eq_true_eq] at hg; exact hg.2.2.1
  have hlen : ∀ e ∈ S.out, ((e.key.length : Nat) : Int) = cols := fun e he => (ent_len (hent e he)).1
  have m1 : ∀ (i j : Nat) (a b : EnM), i ≤ j → S.out[i]? = some a → S.out[j]? = some b → (fun e => decide (cmpK e low < 0)) b = true → (fun e => decide (cmpK e low < 0)) a = true := fun i j a b hij ha hb hp => decide_eq_true ((cmpK_mono (good_le hgd hij ha hb)).1 (of_decide_eq_true hp))
  have m2 : ∀ (i j : Nat) (a b : EnM), i ≤ j → S.out[i]? = some a → S.out[j]? = some b → (fun e => decide (cmpK e high ≤ 0)) b = true → (fun e => decide (cmpK e high ≤ 0)) a = true := fun i j a b hij ha hb hp => decide_eq_true ((cmpK_mono (good_le hgd hij ha hb)).2 (of_decide_eq_true hp))
  have W12 := W.more x12
  refine ⟨_, _, _, W12.cl 5, c45 (p := fun e => decide (cmpK e low < 0)) (outAt W12 hob) (by unfold big; omega) (fnOk 46 rfl) m1 (fun e he H' Q' hx hq' => c46 (((hk e he).ext W12.ext).ext hx) ((hL.ext W12.ext).ext hx) (by have := hlen e he; omega) hq') fun b17 H17 x17 => ⟨_, _, rfl, ?_⟩⟩
  have W17 := W12.more x17
  refine ⟨_, _, _, W17.cl 5, c45 (p := fun e => decide (cmpK e high ≤ 0)) (outAt W17 hob) (by unfold big; omega) (fnOk 47 rfl) m2 (fun e he H' Q' hx hq' => c47 (((hk e he).ext W17.ext).ext hx) ((hS.ext W17.ext).ext hx) (by have := hlen e he; omega) hq') fun b23 H23 x23 => ⟨_, _, rfl, ?_⟩⟩
  have W23 := W17.more x23
  have hle1 := tw_le (p := fun e => decide (cmpK e low < 0)) (l := S.out)
  have hle2 := tw_le (p := fun e => decide (cmpK e high ≤ 0)) (l := S.out)
  obtain ⟨fr, hfr⟩ : ∃ fr, fr = (S.out.takeWhile fun e => decide (cmpK e low < 0)).length := ⟨_, rfl⟩
  obtain ⟨to, hto⟩ : ∃ to, to = (S.out.takeWhile fun e => decide (cmpK e high ≤ 0)).length := ⟨_, rfl⟩
  rw [← hfr] at hle1 ⊢
  rw [← hto] at hle2 ⊢
  refine loop_to S.out.length (fun j st H' => Ext H23 H' ∧ (j = 0 ∨ fr + j ≤ to) ∧ ∃ A' c' l', st = (((A', l'.length, c'), ((fr : Int) + (j : Int), ())), ()) ∧ RowI H23 H' A' c' l' ∧ l' = betw (S.out.take (fr + j)) low high) ⟨Ext.refl _, .inl rfl, none, 0, [], by simp, Row.nil, ?_⟩ ?_
  · refine (betw_none fun e he => ?_).symm
    obtain ⟨i, hi⟩ := List.mem_iff_getElem?.1 he
    have hlt := (List.getElem?_eq_some_iff.1 hi).1
    rw [List.length_take] at hlt
    rw [List.getElem?_take_of_lt (by omega)] at hi
    have hp : decide (cmpK e low < 0) = true := tw_lt (p := fun e => decide (cmpK e low < 0)) (by omega) hi
    unfold passE
    rw [hp]; rfl
  rintro j st H27 next hj ⟨x27, hjt, A', c', l', rfl, R, hl'⟩ hnext
  have W27 := W23.more x27
  dsimp only
  have hllen : l'.length ≤ S.out.length := by rw [hl']; have := betw_len (l := S.out.take (fr + j)) (low := low) (high := high); rw [List.length_take] at this; omega
  refine cndI (fun hlt => ?_) fun hlt => ?_
  · have hlt := of_decide_eq_true hlt
    have ei : ((fr : Int) + (j : Int)) = ((fr + j : Nat) : Int) := by omega
    obtain ⟨e, he⟩ := get_of (l := S.out) (i := fr + j) (by omega)
    rw [ei]
    refine ⟨_, _, _, W27.cl 5, by omega, by omega, rd_en (outAt W27 hob) he fun q o _ k1 k2 => ⟨_, k2, fun g33 hg33 => ?_⟩⟩
    refine Row.push1 (f := inC) (w := e.id) (fun _ => rfl) (fun x v hv => by simp [inC] at hv; subst hv; rfl) (by omega) R x27 (by unfold big; omega) hg33 fun A'' c'' H'' R'' x'' _ _ => ⟨rfl, hnext _ _ (by omega) ⟨x'', .inr (by omega), A'', c'', l' ++ [e.id], ?_, R'', ?_⟩⟩
    · rw [wrap_id (by omega) (by omega)]
      rw [show ((fr + j : Nat) : Int) + 1 = (fr : Int) + ((j + 1 : Nat) : Int) by omega]
    · have hp : passE low high e = true := by
        unfold passE
        have h1 : decide (cmpK e low < 0) = false := tw_ge (p := fun e => decide (cmpK e low < 0)) m1 (by omega) he
        have h2 : decide (cmpK e high ≤ 0) = true := tw_lt (p := fun e => decide (cmpK e high ≤ 0)) (by omega) he
        rw [h1, h2]; rfl
      rw [show fr + (j + 1) = fr + j + 1 by omega, betw_snoc he, if_pos hp, hl']
  · have hlt := of_decide_eq_false hlt
    have hfin : l' = betw S.out low high := by
      rw [hl']
      refine (betw_rest fun i e hi he => ?_).symm
      unfold passE
      have h2 : decide (cmpK e high ≤ 0) = false := tw_ge (p := fun e => decide (cmpK e high ≤ 0)) m2 (by omega) he
      rw [h2, Bool.and_false]
    rw [← hfin] at hq
    have x0 := W12.ext.trans (x17.trans x23)
    refine jn_intro (fun J => ∀ H', Ext H H' → RowI H H' A' c' (turned back l') → J H') (fun H39 x39 R39 => ?_) fun J hJ => cndI (fun hb => ?_) fun hb => ?_
    · have h1 := hq A' c' H39 x39 R39
      have h2 : (turned back l').length = l'.length := by unfold turned; split <;> simp
      simp only [h2] at h1
      exact h1
    · refine c48 R x27 (by unfold big; omega) fun H38 x38 R38 _ => ⟨rfl, hJ H38 (x0.trans x38) ?_⟩
      unfold turned
      rw [if_pos hb]
      exact Row.base R38 x0
    · refine hJ H27 (x0.trans x27) ?_
      unfold turned
      rw [if_neg (by rw [hb]; decide)]
      exact Row.base R x0
end
end Go.Proofs.YtmelbipidffmpaaGreatDoor.Hw

/- What functions of the program come to, by the evaluator: printed by a program of this session (gen.py) and checked here. -/
set_option linter.unusedVariables false
set_option maxRecDepth 100000
namespace Go.Proofs.YtmelbipidffmpaaGreatDoor.Hw
open Go Go.Proofs

/-- justiciar justiciarlaw17.TreeTells -/
def f3 (pt_0_A : Option Addr) (pt_0_n pt_0_c : Nat) (pt_1 : Int) (pt_2 : Int) (pkey_A : Option Addr) (pkey_n pkey_c : Nat) (H : Hp) (Q : Value → Hp → Prop) : Prop :=
  jn (fun (j4 : Bool) (H5 : Hp) => cnd j4 (HCalls Tryz.prog 10 [] H5 fun v7 H8 => ∃ x9 : Bool, v7 = .bool x9 ∧ Q (.bool x9) H8) (HCalls Tryz.prog 11 [.agg #[.slice pt_0_A pt_0_n pt_0_c, .int .i64 pt_1, .int .i64 pt_2]] H5
    fun v10 H11 => ∃ (A12 : Option Addr) (n12 c12 : Nat), ∃ x13 : Int, v10 = .tuple #[.slice A12 n12 c12, .int .i64 x13] ∧ HCalls Tryz.prog 12 [.agg #[.slice pt_0_A pt_0_n pt_0_c, .int .i64 pt_1, .int .i64 pt_2]] H11 fun
    v14 H15 => ∃ (A16 : Option Addr) (n16 c16 : Nat), ∃ x17 : Int, v14 = .tuple #[.slice A16 n16 c16, .int .i64 x17] ∧ jn (fun (j27 : Bool) (H28 : Hp) => cnd j27 (Q (.bool false) H28) (HCalls Tryz.prog 16 [.agg #[.slice
    pt_0_A pt_0_n pt_0_c, .int .i64 pt_1, .int .i64 pt_2]] H28 fun v30 H31 => ∃ x32 : Int, ∃ x33 : Int, v30 = .tuple #[.int .i64 x32, .int .i64 x33] ∧ HCalls Tryz.prog 17 [.agg #[.slice pt_0_A pt_0_n pt_0_c, .int .i64
    pt_1, .int .i64 pt_2]] H31 fun v34 H35 => ∃ x36 : Int, ∃ x37 : Int, v34 = .tuple #[.int .i64 x36, .int .i64 x37] ∧ jn (fun (j38 : Bool) => cnd j38 (Q (.bool false) H35) (HCalls Tryz.prog 18 [.agg #[.slice pt_0_A
    pt_0_n pt_0_c, .int .i64 pt_1, .int .i64 pt_2], .slice pkey_A pkey_n pkey_c] H35 fun v40 H41 => ∃ x42 : Int, ∃ x43 : Int, v40 = .tuple #[.int .i64 x42, .int .i64 x43] ∧ HCalls Tryz.prog 19 [.agg #[.slice pt_0_A pt_0_n
    pt_0_c, .int .i64 pt_1, .int .i64 pt_2], .slice pkey_A pkey_n pkey_c] H41 fun v44 H45 => ∃ x46 : Int, ∃ x47 : Int, v44 = .tuple #[.int .i64 x46, .int .i64 x47] ∧ jn (fun (j51 : Bool) (H52 : Hp) => Q (.bool j51) H52)
    fun J53 => cnd ((x42 : Int) == x46) (cnd ((x43 : Int) == x47) (HCalls Tryz.prog 10 [] H45 fun v48 H49 => ∃ x50 : Bool, v48 = .bool x50 ∧ J53 x50 H49) (J53 false H45)) (J53 false H45))) fun J39 => cnd ((x32 : Int) !=
    x36) (J39 true) (J39 ((x33 : Int) != x37)))) fun J29 => HCalls Tryz.prog 13 [.agg #[.slice pt_0_A pt_0_n pt_0_c, .int .i64 pt_1, .int .i64 pt_2]] H15 fun v18 H19 => ∃ x20 : Bool, v18 = .bool x20 ∧ HCalls Tryz.prog 14
    [.agg #[.slice pt_0_A pt_0_n pt_0_c, .int .i64 pt_1, .int .i64 pt_2]] H19 fun v21 H22 => ∃ x23 : Bool, v21 = .bool x23 ∧ cnd (!(x20 == x23)) (J29 true H22) (HCalls Tryz.prog 15 [.slice A12 n12 c12, .slice A16 n16 c16]
    H22 fun v24 H25 => ∃ x26 : Bool, v24 = .bool x26 ∧ cnd (!x26) (J29 true H25) (J29 ((x13 : Int) != x17) H25)))) fun J6 => HCalls Tryz.prog 9 [.agg #[.slice pt_0_A pt_0_n pt_0_c, .int .i64 pt_1, .int .i64 pt_2]] H fun
    v1 H2 => ∃ x3 : Bool, v1 = .bool x3 ∧ cnd (!x3) (J6 true H2) (J6 (decide ((((pkey_n : Nat) : Int) : Int) > 30)) H2)
noncomputable def fcx3 : Cx := cx 87 [(2, true)] [] [(5, (.look 0 (.look 2 (.act 1 (.act 3 (.look 4 (.look 5 (.look 6 (.look 7 (.act 8 (.look 9 (.look 10 (.look 11 (.look 12 (.look 13 (.look 14 (.look 15 .done))))))) .done))))) .done) .done))))] []
theorem f3.eq (pt_0_A : Option Addr) (pt_0_n pt_0_c : Nat) (pt_1 : Int) (pt_2 : Int) (pkey_A : Option Addr) (pkey_n pkey_c : Nat) (H : Hp) (Q : Value → Hp → Prop) : f3 pt_0_A pt_0_n pt_0_c pt_1 pt_2 pkey_A pkey_n pkey_c H Q = wFun fcx3 Tryz.f3 [.agg #[.slice pt_0_A pt_0_n pt_0_c, .int .i64 pt_1, .int .i64 pt_2], .slice pkey_A pkey_n pkey_c] H Q := by kernel_rfl
theorem f3.ok (pt_0_A : Option Addr) (pt_0_n pt_0_c : Nat) (pt_1 : Int) (pt_2 : Int) (pkey_A : Option Addr) (pkey_n pkey_c : Nat) {H : Hp} {Q : Value → Hp → Prop} (h : f3 pt_0_A pt_0_n pt_0_c pt_1 pt_2 pkey_A pkey_n pkey_c H Q) : HCalls Tryz.prog 3 [.agg #[.slice pt_0_A pt_0_n pt_0_c, .int .i64 pt_1, .int .i64 pt_2], .slice pkey_A pkey_n pkey_c] H Q := hcalls_of (cxOk _ _ _ _ _) Tryz.func3 (Eq.mp (f3.eq pt_0_A pt_0_n pt_0_c pt_1 pt_2 pkey_A pkey_n pkey_c H Q) h)

/-- justiciar justiciarlaw17.TreeFinds -/
def f4 (pt_0_A : Option Addr) (pt_0_n pt_0_c : Nat) (pt_1 : Int) (pt_2 : Int) (plow_A : Option Addr) (plow_n plow_c : Nat) (phigh_A : Option Addr) (phigh_n phigh_c : Nat) (H : Hp) (Q : Value → Hp → Prop) : Prop :=
  jn (fun (j4 : Bool) (H5 : Hp) => cnd j4 (HCalls Tryz.prog 10 [] H5 fun v7 H8 => ∃ x9 : Bool, v7 = .bool x9 ∧ Q (.bool x9) H8) (HCalls Tryz.prog 20 [.agg #[.slice pt_0_A pt_0_n pt_0_c, .int .i64 pt_1, .int .i64 pt_2],
    .slice plow_A plow_n plow_c] H5 fun v10 H11 => ∃ (A12 : Option Addr) (n12 c12 : Nat), ∃ x13 : Int, v10 = .tuple #[.slice A12 n12 c12, .int .i64 x13] ∧ HCalls Tryz.prog 21 [.agg #[.slice pt_0_A pt_0_n pt_0_c, .int .i64
    pt_1, .int .i64 pt_2], .slice plow_A plow_n plow_c] H11 fun v14 H15 => ∃ (A16 : Option Addr) (n16 c16 : Nat), ∃ x17 : Int, v14 = .tuple #[.slice A16 n16 c16, .int .i64 x17] ∧ jn (fun (j21 : Bool) (H22 : Hp) => cnd j21
    (Q (.bool false) H22) (newF H22 4 [.bool false, .bool true] fun g24 H25 => LoopF (σ := (Int × Unit) × Unit) ((0, ()), ()) H25 fun s26 H27 next28 => cnd (decide ((s26.1.1 : Int) < ((2 : Nat) : Int))) (0 ≤ (s26.1.1 :
    Int) ∧ (s26.1.1 : Int) < ((2 : Nat) : Int) ∧ ∃ x29 : Bool, cl H27 g24 (0 + (s26.1.1 : Int).toNat * 1) = some (.bool x29) ∧ HCalls Tryz.prog 23 [.agg #[.slice pt_0_A pt_0_n pt_0_c, .int .i64 pt_1, .int .i64 pt_2],
    .slice plow_A plow_n plow_c, .slice phigh_A phigh_n phigh_c, .bool x29] H27 fun v30 H31 => ∃ (A32 : Option Addr) (n32 c32 : Nat), ∃ x33 : Int, v30 = .tuple #[.slice A32 n32 c32, .int .i64 x33] ∧ HCalls Tryz.prog 24
    [.agg #[.slice pt_0_A pt_0_n pt_0_c, .int .i64 pt_1, .int .i64 pt_2], .slice plow_A plow_n plow_c, .slice phigh_A phigh_n phigh_c, .bool x29] H31 fun v34 H35 => ∃ (A36 : Option Addr) (n36 c36 : Nat), ∃ x37 : Int, v34
    = .tuple #[.slice A36 n36 c36, .int .i64 x37] ∧ jn (fun (j41 : Bool) (H42 : Hp) => cnd j41 (Q (.bool false) H42) (KeepX [some (.v (.slice plow_A plow_n plow_c)), some (.v (.slice phigh_A phigh_n phigh_c)), some (.loc
    3 0), some (.v (.slice (some ⟨g24, 0, none⟩) 2 2)), some (.v (.int .i64 ((2 : Nat) : Int)))] [some (true, [.slice pt_0_A pt_0_n pt_0_c, .int .i64 pt_1, .int .i64 pt_2])] ∧ next28 ((IntKind.i64.wrap (s26.1.1 + 1), ()),
    ()) H42)) fun J43 => HCalls Tryz.prog 22 [.slice A32 n32 c32, .slice A36 n36 c36] H35 fun v38 H39 => ∃ x40 : Bool, v38 = .bool x40 ∧ cnd (!x40) (J43 true H39) (J43 ((x33 : Int) != x37) H39)) (HCalls Tryz.prog 10 []
    H27 fun v44 H45 => ∃ x46 : Bool, v44 = .bool x46 ∧ Q (.bool x46) H45))) fun J23 => HCalls Tryz.prog 22 [.slice A12 n12 c12, .slice A16 n16 c16] H15 fun v18 H19 => ∃ x20 : Bool, v18 = .bool x20 ∧ cnd (!x20) (J23 true
    H19) (J23 ((x13 : Int) != x17) H19))) fun J6 => HCalls Tryz.prog 9 [.agg #[.slice pt_0_A pt_0_n pt_0_c, .int .i64 pt_1, .int .i64 pt_2]] H fun v1 H2 => ∃ x3 : Bool, v1 = .bool x3 ∧ cnd (!x3) (J6 true H2) (cnd (decide
    ((((plow_n : Nat) : Int) : Int) > 30)) (J6 true H2) (J6 (decide ((((phigh_n : Nat) : Int) : Int) > 30)) H2))
noncomputable def fcx4 : Cx := cx 81 [(3, true)] [(8, ⟨[1, 2, 3, 48, 49], [3], [(50, .int .i64)], []⟩)] [] []
theorem f4.eq (pt_0_A : Option Addr) (pt_0_n pt_0_c : Nat) (pt_1 : Int) (pt_2 : Int) (plow_A : Option Addr) (plow_n plow_c : Nat) (phigh_A : Option Addr) (phigh_n phigh_c : Nat) (H : Hp) (Q : Value → Hp → Prop) : f4 pt_0_A pt_0_n pt_0_c pt_1 pt_2 plow_A plow_n plow_c phigh_A phigh_n phigh_c H Q = wFun fcx4 Tryz.f4 [.agg #[.slice pt_0_A pt_0_n pt_0_c, .int .i64 pt_1, .int .i64 pt_2], .slice plow_A plow_n plow_c, .slice phigh_A phigh_n phigh_c] H Q := by kernel_rfl
theorem f4.ok (pt_0_A : Option Addr) (pt_0_n pt_0_c : Nat) (pt_1 : Int) (pt_2 : Int) (plow_A : Option Addr) (plow_n plow_c : Nat) (phigh_A : Option Addr) (phigh_n phigh_c : Nat) {H : Hp} {Q : Value → Hp → Prop} (h : f4 pt_0_A pt_0_n pt_0_c pt_1 pt_2 plow_A plow_n plow_c phigh_A phigh_n phigh_c H Q) : HCalls Tryz.prog 4 [.agg #[.slice pt_0_A pt_0_n pt_0_c, .int .i64 pt_1, .int .i64 pt_2], .slice plow_A plow_n plow_c, .slice phigh_A phigh_n phigh_c] H Q := hcalls_of (cxOk _ _ _ _ _) Tryz.func4 (Eq.mp (f4.eq pt_0_A pt_0_n pt_0_c pt_1 pt_2 plow_A plow_n plow_c phigh_A phigh_n phigh_c H Q) h)

/-- justiciar justiciarlaw17.TreeWays -/
def f8 (pt_0_A : Option Addr) (pt_0_n pt_0_c : Nat) (pt_1 : Int) (pt_2 : Int) (pkey_A : Option Addr) (pkey_n pkey_c : Nat) (H : Hp) (Q : Value → Hp → Prop) : Prop :=
  jn (fun (j7 : Bool) (H8 : Hp) => cnd j7 (HCalls Tryz.prog 10 [] H8 fun v10 H11 => ∃ x12 : Bool, v10 = .bool x12 ∧ Q (.bool x12) H11) (HCalls Tryz.prog 11 [.agg #[.slice pt_0_A pt_0_n pt_0_c, .int .i64 pt_1, .int .i64
    pt_2]] H8 fun v13 H14 => ∃ (A15 : Option Addr) (n15 c15 : Nat), ∃ x16 : Int, v13 = .tuple #[.slice A15 n15 c15, .int .i64 x16] ∧ HCalls Tryz.prog 23 [.agg #[.slice pt_0_A pt_0_n pt_0_c, .int .i64 pt_1, .int .i64
    pt_2], .slice none 0 0, .slice none 0 0, .bool false] H14 fun v17 H18 => ∃ (A19 : Option Addr) (n19 c19 : Nat), ∃ x20 : Int, v17 = .tuple #[.slice A19 n19 c19, .int .i64 x20] ∧ HCalls Tryz.prog 23 [.agg #[.slice
    pt_0_A pt_0_n pt_0_c, .int .i64 pt_1, .int .i64 pt_2], .slice none 0 0, .slice none 0 0, .bool true] H18 fun v21 H22 => ∃ (A23 : Option Addr) (n23 c23 : Nat), ∃ x24 : Int, v21 = .tuple #[.slice A23 n23 c23, .int .i64
    x24] ∧ jn (fun (j25 : Bool) => cnd j25 (Q (.bool false) H22) (LoopF (σ := (Int × Unit) × Unit) ((0, ()), ()) H22 fun s27 H28 next29 => cnd (decide ((s27.1.1 : Int) < ((n15 : Nat) : Int))) (jn (fun (j38 : Bool) => cnd
    j38 (Q (.bool false) H28) (KeepX [some (.v (.slice pkey_A pkey_n pkey_c)), some (.loc 2 0), some (.v (.slice A15 n15 c15)), some (.v (.slice A19 n19 c19)), some (.v (.slice A23 n23 c23)), some (.v (.int .i64 ((n15 :
    Nat) : Int)))] [some (true, [.slice pt_0_A pt_0_n pt_0_c, .int .i64 pt_1, .int .i64 pt_2])] ∧ next29 ((IntKind.i64.wrap (s27.1.1 + 1), ()), ()) H28)) fun J39 => 0 ≤ (s27.1.1 : Int) ∧ (s27.1.1 : Int) < ((n19 : Nat) :
    Int) ∧ onPtr A19 fun b30 o30 => ∃ x31 : Int, cl H28 b30 (o30 + (s27.1.1 : Int).toNat * 1) = some (.int .i64 x31) ∧ 0 ≤ (s27.1.1 : Int) ∧ (s27.1.1 : Int) < ((n15 : Nat) : Int) ∧ onPtr A15 fun b32 o32 => ∃ x33 : Int, cl
    H28 b32 ((o32 + (s27.1.1 : Int).toNat * 2) + 1) = some (.int .i64 x33) ∧ cnd ((x31 : Int) != x33) (J39 true) (0 ≤ (IntKind.i64.wrap ((IntKind.i64.wrap (((n23 : Nat) : Int) - 1)) - s27.1.1) : Int) ∧ (IntKind.i64.wrap
    ((IntKind.i64.wrap (((n23 : Nat) : Int) - 1)) - s27.1.1) : Int) < ((n23 : Nat) : Int) ∧ onPtr A23 fun b34 o34 => ∃ x35 : Int, cl H28 b34 (o34 + (IntKind.i64.wrap ((IntKind.i64.wrap (((n23 : Nat) : Int) - 1)) -
    s27.1.1) : Int).toNat * 1) = some (.int .i64 x35) ∧ 0 ≤ (s27.1.1 : Int) ∧ (s27.1.1 : Int) < ((n15 : Nat) : Int) ∧ onPtr A15 fun b36 o36 => ∃ x37 : Int, cl H28 b36 ((o36 + (s27.1.1 : Int).toNat * 2) + 1) = some (.int
    .i64 x37) ∧ J39 ((x35 : Int) != x37))) (HCalls Tryz.prog 20 [.agg #[.slice pt_0_A pt_0_n pt_0_c, .int .i64 pt_1, .int .i64 pt_2], .slice pkey_A pkey_n pkey_c] H28 fun v40 H41 => ∃ (A42 : Option Addr) (n42 c42 : Nat),
    ∃ x43 : Int, v40 = .tuple #[.slice A42 n42 c42, .int .i64 x43] ∧ cnd ((x43 : Int) != 0) (jn (fun (j47 : Bool) (H48 : Hp) => Q (.bool j47) H48) fun J49 => cnd ((x43 : Int) == 2) (cnd ((((n42 : Nat) : Int) : Int) == 0)
    (HCalls Tryz.prog 10 [] H41 fun v44 H45 => ∃ x46 : Bool, v44 = .bool x46 ∧ J49 x46 H45) (J49 false H41)) (J49 false H41)) (HCalls Tryz.prog 23 [.agg #[.slice pt_0_A pt_0_n pt_0_c, .int .i64 pt_1, .int .i64 pt_2],
    .slice pkey_A pkey_n pkey_c, .slice pkey_A pkey_n pkey_c, .bool false] H41 fun v50 H51 => ∃ (A52 : Option Addr) (n52 c52 : Nat), ∃ x53 : Int, v50 = .tuple #[.slice A52 n52 c52, .int .i64 x53] ∧ HCalls Tryz.prog 18
    [.agg #[.slice pt_0_A pt_0_n pt_0_c, .int .i64 pt_1, .int .i64 pt_2], .slice pkey_A pkey_n pkey_c] H51 fun v54 H55 => ∃ x56 : Int, ∃ x57 : Int, v54 = .tuple #[.int .i64 x56, .int .i64 x57] ∧ HCalls Tryz.prog 16 [.agg
    #[.slice pt_0_A pt_0_n pt_0_c, .int .i64 pt_1, .int .i64 pt_2]] H55 fun v58 H59 => ∃ x60 : Int, ∃ x61 : Int, v58 = .tuple #[.int .i64 x60, .int .i64 x61] ∧ jn (fun (j68 : Bool) (H69 : Hp) => Q (.bool j68) H69) fun J70
    => cnd ((x53 : Int) == 0) (HCalls Tryz.prog 22 [.slice A42 n42 c42, .slice A52 n52 c52] H59 fun v62 H63 => ∃ x64 : Bool, v62 = .bool x64 ∧ cnd x64 (cnd ((x57 : Int) == 0) (cnd ((x61 : Int) == 0) (cnd (decide ((x56 :
    Int) ≥ 1)) (cnd (decide ((x56 : Int) ≤ x60)) (HCalls Tryz.prog 10 [] H63 fun v65 H66 => ∃ x67 : Bool, v65 = .bool x67 ∧ J70 x67 H66) (J70 false H63)) (J70 false H63)) (J70 false H63)) (J70 false H63)) (J70 false H63))
    (J70 false H59))))) fun J26 => cnd ((x16 : Int) != 0) (J26 true) (cnd ((x20 : Int) != 0) (J26 true) (cnd ((x24 : Int) != 0) (J26 true) (cnd ((((n19 : Nat) : Int) : Int) != ((n15 : Nat) : Int)) (J26 true) (J26 ((((n23
    : Nat) : Int) : Int) != ((n15 : Nat) : Int)))))))) fun J9 => HCalls Tryz.prog 9 [.agg #[.slice pt_0_A pt_0_n pt_0_c, .int .i64 pt_1, .int .i64 pt_2]] H fun v1 H2 => ∃ x3 : Bool, v1 = .bool x3 ∧ cnd (!x3) (J9 true H2)
    (cnd (decide ((((pkey_n : Nat) : Int) : Int) > 30)) (J9 true H2) (HCalls Tryz.prog 13 [.agg #[.slice pt_0_A pt_0_n pt_0_c, .int .i64 pt_1, .int .i64 pt_2]] H2 fun v4 H5 => ∃ x6 : Bool, v4 = .bool x6 ∧ J9 (!x6) H5))
noncomputable def fcx8 : Cx := cx 168 [(2, true)] [(9, ⟨[1, 2, 5, 7, 9, 74], [2], [(75, .int .i64)], []⟩)] [(11, (.look 0 (.look 1 (.look 2 (.look 3 (.look 4 (.look 5 (.look 6 (.look 7 (.look 8 (.look 9 (.look 10 (.look 11 (.look 12 (.look 13 (.look 14 (.look 15 (.look 16 (.look 17 (.look 18 (.look 19 (.look 20 (.look 21 (.look 22 (.look 23 (.look 24 (.look 25 .done)))))))))))))))))))))))))))] []
theorem f8.eq (pt_0_A : Option Addr) (pt_0_n pt_0_c : Nat) (pt_1 : Int) (pt_2 : Int) (pkey_A : Option Addr) (pkey_n pkey_c : Nat) (H : Hp) (Q : Value → Hp → Prop) : f8 pt_0_A pt_0_n pt_0_c pt_1 pt_2 pkey_A pkey_n pkey_c H Q = wFun fcx8 Tryz.f8 [.agg #[.slice pt_0_A pt_0_n pt_0_c, .int .i64 pt_1, .int .i64 pt_2], .slice pkey_A pkey_n pkey_c] H Q := by kernel_rfl
theorem f8.ok (pt_0_A : Option Addr) (pt_0_n pt_0_c : Nat) (pt_1 : Int) (pt_2 : Int) (pkey_A : Option Addr) (pkey_n pkey_c : Nat) {H : Hp} {Q : Value → Hp → Prop} (h : f8 pt_0_A pt_0_n pt_0_c pt_1 pt_2 pkey_A pkey_n pkey_c H Q) : HCalls Tryz.prog 8 [.agg #[.slice pt_0_A pt_0_n pt_0_c, .int .i64 pt_1, .int .i64 pt_2], .slice pkey_A pkey_n pkey_c] H Q := hcalls_of (cxOk _ _ _ _ _) Tryz.func8 (Eq.mp (f8.eq pt_0_A pt_0_n pt_0_c pt_1 pt_2 pkey_A pkey_n pkey_c H Q) h)

end Go.Proofs.YtmelbipidffmpaaGreatDoor.Hw

/- Trees: Between of the document; Find; the laws TreeTells and TreeFinds without awake. -/
set_option linter.unusedVariables false
set_option linter.unusedSimpArgs false
set_option linter.unusedSectionVars false
set_option maxRecDepth 20000
namespace Go.Proofs.YtmelbipidffmpaaGreatDoor.Hw
open Go Go.Proofs
section
variable {H0 H : Hp} {A oA kA lA : Option Addr} {n c oc kn kc ln lc : Nat} {root cols : Int} {S : Sv} {Q : Value → Hp → Prop} {bl : List NdM} {low high : List Vl} {back : Bool}
theorem turned_snoc {l : List Int} {x : Int} : turned back (l ++ [x]) = if back = true then x :: turned back l else turned back l ++ [x] := by
  unfold turned
  cases back <;> simp
theorem c24 (hT : TrAt H A n bl) (hF : Fewish bl) (hL : SlAt vlC H lA ln low) (hS : SlAt vlC H kA kn high) (tL : TxS low) (tS : TxS high)
    (hq : ∀ A' c' H', Ext H H' → RowI H H' A' c' (betT (treeV bl root cols) cols low high back).1 → Q (.tuple #[.slice A' (betT (treeV bl root cols) cols low high back).1.length c', .int .i64 (betT (treeV bl root cols) cols low high back).2]) H') :
    HCalls Tryz.prog 24 [.agg #[.slice A n c, .int .i64 root, .int .i64 cols], .slice lA ln lc, .slice kA kn kc, .bool back] H Q := by
  refine f24.ok _ _ _ _ _ _ _ _ _ _ _ _ ?_
  unfold f24
  refine c38 hT hF (fun h A3 n3 c3 x H2 hx => ⟨_, _, _, _, _, rfl, ?_⟩) fun S h hl hk oA oc H2 hx hr => ⟨_, _, _, _, _, rfl, ?_⟩
  · refine jn_intro (fun J => ∀ H', Ext H H' → J true H') (fun H12 x12 => cndT rfl ?_) fun J hJ => cndT rfl (hJ H2 hx)
    rw [h] at hq
    exact hq none 0 H12 x12 Row.nil
  rw [h] at hq
  have hob : S.out.length < huge := by unfold huge; omega
  obtain ⟨hs, hgd, _⟩ := tree_of h
  have hent := good_ent hgd
  have hd : betT (some S) cols low high back = if (keyG 0 cols low && keyG 0 cols high) = true then (turned back (betw S.out low high), 0) else ([], 2) := rfl
  rw [hd] at hq
  refine jn_intro (fun J => ((keyG 0 cols low && keyG 0 cols high) = false → J true H2) ∧ ((keyG 0 cols low && keyG 0 cols high) = true → J false H2)) ⟨fun hg => cndT rfl (by rw [hg] at hq; exact hq none 0 H2 hx Row.nil), fun hg => cndF rfl ?_⟩ fun J hJ => cndF rfl ?_
  rotate_left
  · refine c43 tL (hL.ext hx) hs.2.1 ⟨_, rfl, cndI (fun h1 => ?_) fun h1 => c43 tS (hS.ext hx) hs.2.1 ⟨_, rfl, ?_⟩⟩
    · rw [Bool.not_eq_true'] at h1
      exact hJ.1 (by rw [h1]; rfl)
    · rw [Bool.not_eq_false'] at h1
      rw [h1, Bool.true_and] at hJ
      cases hv : keyG 0 cols high with
      | true => exact hJ.2 hv
      | false => exact hJ.1 hv
  rw [if_pos hg] at hq
  have hlo : ((low.length : Nat) : Int) ≤ cols ∧ validL low = true := by unfold keyG at hg; simp only [Bool.and_eq_true, decide_eq_true_eq] at hg; exact hg.1.2
  have hhi : ((high.length : Nat) : Int) ≤ cols ∧ validL high = true := by unfold keyG at hg; simp only [Bool.and_eq_true, decide_eq_true_eq] at hg; exact hg.2.2
  have hso : SlAt enC H2 oA S.out.length S.out := ⟨rfl, hr.cells, hob⟩
  refine loop_to S.out.length (fun i st H' => Ext H2 H' ∧ ∃ A' c' l', st = (((A', l'.length, c'), ((i : Int), ())), ()) ∧ RowI H2 H' A' c' l' ∧ l' = turned back (betw (S.out.take i) low high)) ⟨Ext.refl _, none, 0, [], rfl, Row.nil, by unfold turned betw; simp⟩ ?_
  rintro i st H16 next hi ⟨x16, A', c', l', rfl, R, hl'⟩ hnext
  dsimp only
  have hllen : l'.length ≤ i := by
    rw [hl']
    have := betw_len (l := S.out.take i) (low := low) (high := high)
    rw [List.length_take] at this
    unfold turned; split <;> (try rw [List.length_reverse]) <;> omega
  refine cndI (fun hlt => ?_) fun hlt => ?_
  · have hlt := of_decide_eq_true hlt
    obtain ⟨e, he⟩ := get_of (l := S.out) (i := i) (by omega)
    have hm := List.mem_of_getElem? he
    have hlen := (ent_len (hent e hm)).1
    have hke := (hk e hm).ext (hx.trans x16)
    have hval := (ent_len (hent e hm)).2
    refine jn_intro (fun J => ∀ A'' l'' c'' H', Ext H2 H' → RowI H2 H' A'' c'' l'' → l'' = turned back (betw (S.out.take (i + 1)) low high) → J A'' l''.length c'' H') (fun A'' l'' c'' H' x' R' hl'' => ⟨rfl, hnext _ _ (by omega) ⟨x', A'', c'', l'', ?_, R', hl''⟩⟩) fun J42 hJ42 => ⟨by omega, by omega, rd_en (hso.ext x16) he fun q o _ k1 k2 => ⟨_, _, _, by simpa using k1, _, by simpa using k2, ?_⟩⟩
    · rw [wrap_id (by omega) (by omega)]; rfl
    rw [betw_snoc he] at hJ42
    refine jn_intro (fun J => (passE low high e = false → J true H16) ∧ (passE low high e = true → J false H16)) ⟨fun hp => cndT rfl ?_, fun hp => cndF rfl (cndI (fun hb => ?_) fun hb => ?_)⟩ fun J29 hJ29 => ?_
    · rw [hp] at hJ42
      exact hJ42 A' l' c' H16 x16 R hl'
    · rw [if_pos hp, turned_snoc, if_pos hb, ← hl'] at hJ42
      intro g30 hg30
      have x31 : Ext H16 (upd g30 (.cells [Value.int .i64 e.id].toArray 3 (0, 0)) H16) := Ext.new hg30
      have R30 : Row H2 (upd g30 (.cells [Value.int .i64 e.id].toArray 3 (0, 0)) H16) (some ⟨g30, 0, none⟩) 1 1 1 [Value.int .i64 e.id] := ⟨rfl, Nat.le_refl _, .inr ⟨g30, _, 3, rfl, upd_at, by simp, by simp, x16.none hg30⟩⟩
      refine R30.append (x16.trans x31) (RowI.more R x31).cells (by rw [inC_len]) (fun v hv => by obtain ⟨x, _, hx⟩ := List.mem_flatMap.1 hv; simp [inC] at hx; subst hx; rfl) (by omega) (by omega) fun A32 c32 H33 R32 x33 _ _ _ => ?_
      have := hJ42 A32 (e.id :: l') c32 H33 x33 (by
        have R32 := R32
        unfold RowI
        rw [List.length_cons, Nat.add_comm]
        exact R32) rfl
      rw [List.length_cons, Nat.add_comm] at this
      exact this
    · rw [if_pos hp, turned_snoc, if_neg (by rw [hb]; decide), ← hl'] at hJ42
      intro g34 hg34
      exact Row.push1 (f := inC) (w := e.id) (fun _ => rfl) (fun x v hv => by simp [inC] at hv; subst hv; rfl) (by omega) R x16 (by unfold big; omega) hg34 fun A'' c'' H'' R'' x'' _ _ => hJ42 A'' (l' ++ [e.id]) c'' H'' x'' R'' rfl
    · have r1 := keyK hval hlo.2 (by omega)
      have r2 := keyK hval hhi.2 (by omega)
      refine c44 hke.sl ((hL.ext hx).ext x16) hke.tx tL ⟨_, rfl, ?_⟩
      rw [r1]
      refine cndI (fun h1 => hJ29.1 ?_) fun h1 => c44 hke.sl ((hS.ext hx).ext x16) hke.tx tS ⟨_, rfl, ?_⟩
      · unfold passE; rw [h1]; rfl
      · rw [r2]
        unfold passE at hJ29
        rw [h1, Bool.not_false, Bool.true_and] at hJ29
        by_cases h2 : cmpK e high ≤ 0
        · rw [decide_eq_false (by omega)]; exact hJ29.2 (decide_eq_true h2)
        · rw [decide_eq_true (by omega)]; exact hJ29.1 (decide_eq_false h2)
  · have hlt := of_decide_eq_false hlt
    have : i = S.out.length := by omega
    rw [this, List.take_length] at hl'
    rw [← hl'] at hq
    exact hq A' c' H16 (hx.trans x16) (Row.base R hx)
/-- What Find says. -/
def findT (t : Option Sv) (cols : Int) (key : List Vl) : List Int × Int := if key.length = 0 then ([], 2) else betT t cols key key false
theorem c20 {key : List Vl} (N : NullAt H) (hT : TrAt H A n bl) (hF : Fewish bl) (hS : SlAt vlC H kA kn key)
    (hq : ∀ A' c' H', Ext H H' → RowI H H' A' c' (findT (treeV bl root cols) cols key).1 → Q (.tuple #[.slice A' (findT (treeV bl root cols) cols key).1.length c', .int .i64 (findT (treeV bl root cols) cols key).2]) H') :
    HCalls Tryz.prog 20 [.agg #[.slice A n c, .int .i64 root, .int .i64 cols], .slice kA kn kc] H Q := by
  refine f20.ok _ _ _ _ _ _ _ _ ?_
  unfold f20
  have hkl := hS.len
  unfold findT at hq
  refine cndI (fun h => ?_) fun h => ?_
  · have : key.length = 0 := by have := beq_iff_eq.1 h; omega
    rw [if_pos this] at hq
    exact hq none 0 H (Ext.refl _) Row.nil
  · have : ¬ key.length = 0 := by
      intro e
      have : ((kn : Nat) : Int) ≠ 0 := by simpa using h
      omega
    rw [if_neg this] at hq
    exact c23 N hT hF hS hS fun A' c' H' x R => ⟨_, _, _, _, rfl, hq A' c' H' x R⟩
theorem c21 {key : List Vl} (hT : TrAt H A n bl) (hF : Fewish bl) (hS : SlAt vlC H kA kn key) (tS : TxS key)
    (hq : ∀ A' c' H', Ext H H' → RowI H H' A' c' (findT (treeV bl root cols) cols key).1 → Q (.tuple #[.slice A' (findT (treeV bl root cols) cols key).1.length c', .int .i64 (findT (treeV bl root cols) cols key).2]) H') :
    HCalls Tryz.prog 21 [.agg #[.slice A n c, .int .i64 root, .int .i64 cols], .slice kA kn kc] H Q := by
  refine f21.ok _ _ _ _ _ _ _ _ ?_
  unfold f21
  have hkl := hS.len
  refine jn_intro (fun J => ((findT (treeV bl root cols) cols key) = ([], 2) → ∀ H', Ext H H' → J true H') ∧ (findT (treeV bl root cols) cols key = betT (treeV bl root cols) cols key key false → ∀ H', Ext H H' → J false H')) ⟨fun hf H8 x8 => cndT rfl (by rw [hf] at hq; exact hq none 0 H8 x8 Row.nil), fun hf H8 x8 => cndF rfl ?_⟩ fun J hJ => ?_
  · rw [hf] at hq
    exact c24 (hT.ext x8) hF (hS.ext x8) (hS.ext x8) tS tS fun A' c' H' x R => ⟨_, _, _, _, rfl, hq A' c' H' (x8.trans x) (Row.base R x8)⟩
  refine c14 hT hF fun H2 x2 => ⟨_, rfl, ?_⟩
  cases h : treeV bl root cols with
  | none =>
    rw [h] at hJ
    refine cndT rfl (hJ.1 ?_ H2 x2)
    unfold findT betT
    split <;> rfl
  | some S =>
    rw [h] at hJ
    obtain ⟨hs, _⟩ := tree_of h
    refine cndF rfl (c43 tS (hS.ext x2) hs.2.1 ⟨_, rfl, ?_⟩)
    cases hk : keyG 1 cols key with
    | true =>
      refine hJ.2 ?_ H2 x2
      unfold findT
      rw [if_neg]
      unfold keyG at hk
      simp only [Bool.and_eq_true, decide_eq_true_eq] at hk
      omega
    | false =>
      refine hJ.1 ?_ H2 x2
      unfold findT
      by_cases h0 : key.length = 0
      · rw [if_pos h0]
      · rw [if_neg h0]
        have : keyG 0 cols key = false := by
          unfold keyG at hk ⊢
          rw [decide_eq_true (by omega)] at hk ⊢
          exact hk
        unfold betT
        rw [this]; rfl
end
end Go.Proofs.YtmelbipidffmpaaGreatDoor.Hw

/- Trees: TreeTells, TreeFinds, TreeWays walked; awake is asked for. -/
set_option linter.unusedVariables false
set_option linter.unusedSimpArgs false
set_option linter.unusedSectionVars false
set_option maxRecDepth 20000
namespace Go.Proofs.YtmelbipidffmpaaGreatDoor.Hw
open Go Go.Proofs
def Awake : Prop := ∀ (H : Hp) (Q : Value → Hp → Prop), NullAt H → (∀ H', Ext H H' → Q (.bool true) H') → HCalls Tryz.prog 10 [] H Q
section
variable {H0 H : Hp} {A oA kA lA : Option Addr} {n c oc kn kc ln lc : Nat} {root cols : Int} {S : Sv} {Q : Value → Hp → Prop} {bl : List NdM} {key low high : List Vl} {back : Bool}
theorem c3 (aw : Awake) (N : NullAt H) (hT : TrAt H A n bl) (hF : Fewish bl) (hS : SlAt vlC H kA kn key) (tS : TxS key) (hq : ∀ H', Ext H H' → Q (.bool true) H') :
    HCalls Tryz.prog 3 [.agg #[.slice A n c, .int .i64 root, .int .i64 cols], .slice kA kn kc] H Q := by
  refine f3.ok _ _ _ _ _ _ _ _ ?_
  unfold f3
  refine jn_intro (fun J => ∀ b, J b H) (fun b => cndI (fun _ => aw H _ N fun H' hx => ⟨_, rfl, hq H' hx⟩) fun _ => ?_) fun J hJ => c9 hT fun b => ⟨_, rfl, cndI (fun _ => hJ _) fun _ => hJ _⟩
  refine c11 N hT hF fun A12 k12 l12 H11 x11 R12 hl12 he12 => ⟨_, _, _, _, rfl, ?_⟩
  refine c12 (hT.ext x11) hF fun A16 k16 l16 H15 x15 R16 hl16 he16 => ⟨_, _, _, _, rfl, ?_⟩
  have x15' := x11.trans x15
  refine jn_intro (fun J => ∀ H', Ext H H' → J false H') (fun H28 x28 => cndF rfl ?_) fun J hJ => ?_
  rotate_left
  · refine c13 (N.ext x15') (hT.ext x15') hF fun H19 x19 => ⟨_, rfl, c14 (hT.ext (x15'.trans x19)) hF fun H22 x22 => ⟨_, rfl, cndF (by simp) ?_⟩⟩
    have x22' := x15'.trans (x19.trans x22)
    refine c15 ((R12.at (by unfold huge; omega)).ext (x15.trans (x19.trans x22))) ((R16.at (by unfold huge; omega)).ext (x19.trans x22)) (by rw [he12, he16]) ⟨_, rfl, cndF rfl ?_⟩
    rw [show (((allT (treeV bl root cols)).2 : Int) != (allT (treeV bl root cols)).2) = false by simp]
    exact hJ H22 x22'
  refine c16 (N.ext x28) (hT.ext x28) hF fun H31 x31 => ⟨_, _, rfl, c17 (hT.ext (x28.trans x31)) hF fun H35 x35 => ⟨_, _, rfl, ?_⟩⟩
  have x35' := x28.trans (x31.trans x35)
  refine jn_intro (fun J => J false) (cndF rfl ?_) fun J hJ => cndF (by simp) (by
    rw [show (((depT (treeV bl root cols)).2 : Int) != (depT (treeV bl root cols)).2) = false by simp]; exact hJ)
  have fin : ∀ (a b : Int) H41, Ext H H41 → jn (fun (j51 : Bool) (H52 : Hp) => Q (.bool j51) H52) fun J53 => cnd ((a : Int) == a) (cnd ((b : Int) == b) (HCalls Tryz.prog 10 [] H41 fun v48 H49 => ∃ x50 : Bool, v48 = .bool x50 ∧ J53 x50 H49) (J53 false H41)) (J53 false H41) := fun a b H41 x41 =>
    jn_intro (fun J => ∀ H', Ext H H' → J true H') (fun H' hx => hq H' hx) fun J hJ => cndT (by simp) (cndT (by simp) (aw H41 _ (N.ext x41) fun H' hx => ⟨_, rfl, hJ H' (x41.trans hx)⟩))
  cases hv : treeV bl root cols with
  | none =>
    refine c18N (N.ext x35') (hT.ext x35') hF hv fun H41 x41 => ⟨_, _, rfl, c19N (hT.ext (x35'.trans x41)) hF hv fun H45 x45 => ⟨_, _, rfl, fin _ _ H45 (x35'.trans (x41.trans x45))⟩⟩
  | some S =>
    obtain ⟨_, _, h, t, a1, a2, a3, _, a5⟩ := tree_of hv
    refine c18 (N.ext x35') (hT.ext x35') hF (hS.ext x35') hv a1 a2 a3 a5 fun H41 x41 => ⟨_, _, rfl, c19 tS (hT.ext (x35'.trans x41)) hF (hS.ext (x35'.trans x41)) hv a1 a2 a3 a5 fun H45 x45 => ⟨_, _, rfl, fin _ _ H45 (x35'.trans (x41.trans x45))⟩⟩
theorem bet_len (low high : List Vl) (back : Bool) : (betT (treeV bl root cols) cols low high back).1.length < big := by
  unfold betT
  split
  · simp [big]
  · rename_i S hv
    split
    · have h1 := betw_len (l := S.out) (low := low) (high := high)
      have h2 : S.out.length ≤ 800000 := by
        unfold treeV at hv
        split at hv
        · rename_i hs
          split at hv
          · cases hv
          · rename_i T ht
            split at hv
            · cases hv
              have := (visit_step ht).2.2
              unfold pot at this
              rw [unseen_start] at this
              simp only [start, List.length_nil] at this
              have := hs.2.2.2
              omega
            · cases hv
        · cases hv
      show (turned back (betw S.out low high)).length < big
      unfold turned big
      split <;> (try rw [List.length_reverse]) <;> omega
    · simp [big]
theorem c4 (aw : Awake) (N : NullAt H) (hT : TrAt H A n bl) (hF : Fewish bl) (hL : SlAt vlC H lA ln low) (hS : SlAt vlC H kA kn high) (tL : TxS low) (tS : TxS high) (hq : ∀ H', Ext H H' → Q (.bool true) H') :
    HCalls Tryz.prog 4 [.agg #[.slice A n c, .int .i64 root, .int .i64 cols], .slice lA ln lc, .slice kA kn kc] H Q := by
  refine f4.ok _ _ _ _ _ _ _ _ _ _ _ ?_
  unfold f4
  refine jn_intro (fun J => ∀ b, J b H) (fun b => cndI (fun _ => aw H _ N fun H' hx => ⟨_, rfl, hq H' hx⟩) fun _ => ?_) fun J hJ => c9 hT fun b => ⟨_, rfl, cndI (fun _ => hJ _) fun _ => cndI (fun _ => hJ _) fun _ => hJ _⟩
  have hfl : (findT (treeV bl root cols) cols low).1.length < big := by
    unfold findT
    split
    · simp [big]
    · exact bet_len _ _ _
  refine c20 N hT hF hL fun A12 k12 H11 x11 R12 => ⟨_, _, _, _, rfl, c21 (hT.ext x11) hF (hL.ext x11) tL fun A16 k16 H15 x15 R16 => ⟨_, _, _, _, rfl, ?_⟩⟩
  have x15' := x11.trans x15
  refine jn_intro (fun J => J false H15) (cndF rfl ?_) fun J hJ => c22 ((RowI.more R12 x15).at hfl) (R16.at hfl) ⟨_, rfl, cndF rfl (by
    rw [show (((findT (treeV bl root cols) cols low).2 : Int) != (findT (treeV bl root cols) cols low).2) = false by simp]; exact hJ)⟩
  intro g24 hg24
  have x25 : Ext H15 (upd g24 (.cells [Value.bool false, .bool true].toArray 4 (0, 0)) H15) := Ext.new hg24
  have s24 : SlAt (fun b => [Value.bool b]) (upd g24 (.cells [Value.bool false, .bool true].toArray 4 (0, 0)) H15) (some ⟨g24, 0, none⟩) 2 [false, true] := fresh_sl (l := [false, true]) rfl (by simp [huge])
  refine scan (n := 2) (by omega) (fun i H' => Ext (upd g24 (.cells [Value.bool false, .bool true].toArray 4 (0, 0)) H15) H') (Ext.refl _) (fun i H27 next hi x27 hnext => ?_) (fun H27 next x27 => ?_)
  · dsimp only
    have xx := x15'.trans (x25.trans x27)
    obtain ⟨b, hb⟩ := get_of (l := [false, true]) (i := i) (by simpa using hi)
    have h0 : onPtr (some ⟨g24, 0, none⟩) fun p o => cl H27 p (o + i * 1) = some (.bool b) := rd_b (s24.ext x27) hb fun p o _ k => by simpa using k
    refine cndT (decide_eq_true (by omega)) ⟨by omega, by omega, b, h0, ?_⟩
    refine c23 (N.ext xx) (hT.ext xx) hF (hL.ext xx) (hS.ext xx) fun A32 k32 H31 x31 R32 => ⟨_, _, _, _, rfl, c24 (hT.ext (xx.trans x31)) hF (hL.ext (xx.trans x31)) (hS.ext (xx.trans x31)) tL tS fun A36 k36 H35 x35 R36 => ⟨_, _, _, _, rfl, ?_⟩⟩
    refine jn_intro (fun J => J false H35) (cndF rfl ⟨rfl, hnext H35 (x27.trans (x31.trans x35))⟩) fun J hJ => c22 ((RowI.more R32 x35).at (bet_len _ _ _)) (R36.at (bet_len _ _ _)) ⟨_, rfl, cndF rfl (by
      rw [show (((betT (treeV bl root cols) cols low high b).2 : Int) != (betT (treeV bl root cols) cols low high b).2) = false by simp]; exact hJ)⟩
  · dsimp only
    have xx := x15'.trans (x25.trans x27)
    exact cndF (by decide) (aw H27 _ (N.ext xx) fun H' hx => ⟨_, rfl, hq H' (xx.trans hx)⟩)
theorem touch_le {key : List Vl} : ∀ (h : Nat) (t : BT) (n : Int), n ≤ touchB key h t n ∧ touchB key h t n ≤ n + h
  | 0, t, n => ⟨Int.le_refl _, by show n ≤ n + 0; omega⟩
  | h + 1, t, n => by
    unfold touchB
    split
    · omega
    · split
      · rename_i u _
        have := touch_le (key := key) h u (n + 1)
        omega
      · omega
theorem betw_all {cols : Int} {l : List EnM} : betw l [] [] = l.map EnM.id := by
  unfold betw
  rw [List.filter_eq_self.2]
  intro e _
  unfold passE cmpK
  simp [ordL]
theorem c8 (aw : Awake) (N : NullAt H) (hT : TrAt H A n bl) (hF : Fewish bl) (hS : SlAt vlC H kA kn key) (tS : TxS key) (hq : ∀ H', Ext H H' → Q (.bool true) H') :
    HCalls Tryz.prog 8 [.agg #[.slice A n c, .int .i64 root, .int .i64 cols], .slice kA kn kc] H Q := by
  refine f8.ok _ _ _ _ _ _ _ _ ?_
  unfold f8
  refine jn_intro (fun J => (∀ H', Ext H H' → J true H') ∧ (∀ S H', treeV bl root cols = some S → Ext H H' → J false H')) ⟨fun H8 x8 => cndT rfl (aw H8 _ (N.ext x8) fun H' hx => ⟨_, rfl, hq H' (x8.trans hx)⟩), fun S H8 hv x8 => cndF rfl ?_⟩ fun J hJ => c9 hT fun b => ⟨_, rfl, cndI (fun _ => hJ.1 H (Ext.refl _)) fun _ => cndI (fun _ => hJ.1 H (Ext.refl _)) fun _ => c13 N hT hF fun H5 x5 => ⟨_, rfl, ?_⟩⟩
  rotate_left
  · cases hv : treeV bl root cols with
    | none => exact hJ.1 H5 x5
    | some S => exact hJ.2 S H5 hv x5
  obtain ⟨hsh, hgd, h, t, a1, a2, a3, a4, a5⟩ := tree_of hv
  have hent := good_ent hgd
  have k0 : keyG 0 cols [] = true := by
    unfold keyG
    have := hsh.1
    simp [validL]
    omega
  have e0 : ∀ back, betT (some S) cols [] [] back = (turned back (S.out.map EnM.id), 0) := fun back => by
    unfold betT
    simp only [k0, Bool.and_self, if_true]
    rw [betw_all (cols := cols)]
  have nilS : ∀ H : Hp, SlAt vlC H none 0 [] := fun H => ⟨rfl, .inl rfl, by simp [huge]⟩
  refine c11 (N.ext x8) (hT.ext x8) hF fun A15 k15 l15 H14 x14 R15 hl15 he15 => ⟨_, _, _, _, rfl, ?_⟩
  have x14' := x8.trans x14
  refine c23 (N.ext x14') (hT.ext x14') hF (nilS _) (nilS _) fun A19 k19 H18 x18 R19 => ⟨_, _, _, _, rfl, ?_⟩
  have x18' := x14'.trans x18
  refine c23 (N.ext x18') (hT.ext x18') hF (nilS _) (nilS _) fun A23 k23 H22 x22 R23 => ⟨_, _, _, _, rfl, ?_⟩
  have x22' := x18'.trans x22
  have hbl := bet_len (bl := bl) (root := root) (cols := cols)
  have s19 := (RowI.more R19 x22).at (hbl _ _ _)
  have s23 := R23.at (hbl _ _ _)
  have s15 := (R15.at (by unfold huge; omega)).ext (x18.trans x22)
  rw [hv] at he15 s19 s23 ⊢
  rw [e0] at s19 s23 ⊢
  rw [e0]
  have he15 : l15.map sayE = S.out.map sayE := he15
  have hids : l15.map EnM.id = S.out.map EnM.id := by
    have := congrArg (List.map Prod.snd) he15
    rw [List.map_map, List.map_map] at this
    exact this
  have hlen : l15.length = S.out.length := by have := congrArg List.length he15; simpa using this
  refine jn_intro (fun J => J false) (cndF rfl ?_) fun J hJ => cndF rfl (cndF rfl (cndF rfl (cndF ?_ ?_)))
  rotate_left
  · show ((((turned false (S.out.map EnM.id)).length : Nat) : Int) != ((l15.length : Nat) : Int)) = false
    unfold turned; simp [hlen]
  · have : ((((turned true (S.out.map EnM.id)).length : Nat) : Int) != ((l15.length : Nat) : Int)) = false := by unfold turned; simp [hlen]
    rw [this]; exact hJ
  refine scan (n := l15.length) (by omega) (fun i H' => H' = H22) rfl (fun i H28 next hi hI hnext => ?_) (fun H28 next hI => ?_)
  · obtain rfl := hI
    obtain ⟨e, he⟩ := get_of hi
    have h1 : (turned false (S.out.map EnM.id))[i]? = some e.id := by
      show (S.out.map EnM.id)[i]? = _
      rw [← hids, List.getElem?_map, he]; rfl
    have h2 : (turned true (S.out.map EnM.id))[S.out.length - 1 - i]? = some e.id := by
      show (S.out.map EnM.id).reverse[S.out.length - 1 - i]? = _
      rw [List.getElem?_reverse (by rw [List.length_map]; omega), List.length_map, ← hids, List.getElem?_map, show S.out.length - 1 - (S.out.length - 1 - i) = i by omega, he]; rfl
    have l19 : (turned false (S.out.map EnM.id)).length = S.out.length := by unfold turned; simp
    have l23 : (turned true (S.out.map EnM.id)).length = S.out.length := by unfold turned; simp
    dsimp only
    refine cndT (decide_eq_true (by omega)) (jn_intro (fun J => J false) (cndF rfl ⟨rfl, hnext H28 rfl⟩) fun J hJ => ⟨by omega, by rw [l19]; omega, rd_in s19 h1 fun q o _ kc => ⟨_, by simpa using kc, by omega, by omega, rd_en s15.sl he fun q o _ k1 k2 => ⟨_, by simpa using k2, cndF (by simp) ?_⟩⟩⟩)
    rw [l23]
    have ew : IntKind.i64.wrap (IntKind.i64.wrap (((S.out.length : Nat) : Int) - 1) - (i : Int)) = ((S.out.length - 1 - i : Nat) : Int) := by rw [wrap_id (x := ((S.out.length : Nat) : Int) - 1) (by omega) (by omega), wrap_id (by omega) (by omega)]; omega
    rw [ew]
    refine ⟨by omega, by omega, rd_in s23 h2 fun q o _ kc => ⟨_, by rw [Nat.mul_one]; exact kc, by omega, by omega, rd_en s15.sl he fun q o _ k1 k2 => ⟨_, by simpa using k2, ?_⟩⟩⟩
    rw [show ((e.id : Int) != e.id) = false by simp]
    exact hJ
  · obtain rfl := hI
    dsimp only
    refine cndF (decide_eq_false (by omega)) ?_
    refine c20 (N.ext x22') (hT.ext x22') hF (hS.ext x22') fun A42 k42 H41 x41 R42 => ⟨_, _, _, _, rfl, ?_⟩
    have x41' := x22'.trans x41
    have fin : ∀ H63, Ext H H63 → jn (fun (j47 : Bool) (H48 : Hp) => Q (.bool j47) H48) fun J49 => HCalls Tryz.prog 10 [] H63 fun v44 H45 => ∃ x46 : Bool, v44 = .bool x46 ∧ J49 x46 H45 := fun H63 x63 =>
      jn_intro (fun J => ∀ H', Ext H H' → J true H') (fun H' hx => hq H' hx) fun J hJ => aw H63 _ (N.ext x63) fun H' hx => ⟨_, rfl, hJ H' (x63.trans hx)⟩
    by_cases hk : keyG 1 cols key = true
    · have hk0 : ¬ key.length = 0 := by
        unfold keyG at hk
        simp only [Bool.and_eq_true, decide_eq_true_eq] at hk
        omega
      have hkk : keyG 0 cols key = true := by
        unfold keyG at hk ⊢
        rw [Bool.and_eq_true] at hk
        rw [decide_eq_true (by omega), Bool.true_and]
        exact hk.2
      have hft : findT (treeV bl root cols) cols key = betT (treeV bl root cols) cols key key false := by unfold findT; rw [if_neg hk0]
      have hb2 : (betT (treeV bl root cols) cols key key false).2 = 0 := by rw [hv]; unfold betT; simp only [hkk, Bool.and_self, if_true]
      rw [hft] at R42 ⊢
      rw [hb2]
      refine cndF rfl ?_
      refine c23 (N.ext x41') (hT.ext x41') hF (hS.ext x41') (hS.ext x41') fun A52 k52 H51 x51 R52 => ⟨_, _, _, _, rfl, ?_⟩
      have x51' := x41'.trans x51
      refine c18 (N.ext x51') (hT.ext x51') hF (hS.ext x51') hv a1 a2 a3 a5 fun H55 x55 => ⟨_, _, rfl, c16 (N.ext (x51'.trans x55)) (hT.ext (x51'.trans x55)) hF fun H59 x59 => ⟨_, _, rfl, ?_⟩⟩
      have x59' := x51'.trans (x55.trans x59)
      rw [hb2]
      have htt : touT 1 cols key h t = (touchB key h t 1, 0) := by unfold touT; rw [if_pos hk]
      have htl := touch_le (key := key) h t 1
      have hdp : depT (treeV bl root cols) = (S.leaf, 0) := by rw [hv]; rfl
      rw [htt, hdp]
      refine jn_intro (fun J => ∀ H', Ext H H' → J true H') (fun H' hx => hq H' hx) fun J hJ => cndT rfl (c22 ((RowI.more R42 (x51.trans (x55.trans x59))).at (hbl _ _ _)) ((RowI.more R52 (x55.trans x59)).at (hbl _ _ _)) ⟨_, rfl, cndT rfl (cndT rfl (cndT rfl (cndT (decide_eq_true ?_) (cndT (decide_eq_true ?_) (aw H59 _ (N.ext x59') fun H' hx => ⟨_, rfl, hJ H' (x59'.trans hx)⟩)))))⟩)
      · show touchB key h t 1 ≥ 1; omega
      · show touchB key h t 1 ≤ S.leaf; omega
    · have hft : findT (treeV bl root cols) cols key = ([], 2) := by
        unfold findT
        by_cases hk0 : key.length = 0
        · rw [if_pos hk0]
        · rw [if_neg hk0, hv]
          have : keyG 0 cols key = false := by
            have hk := Bool.eq_false_iff.2 hk
            unfold keyG at hk ⊢
            rw [decide_eq_true (by omega)] at hk ⊢
            exact hk
          unfold betT
          simp only [this, Bool.and_self, Bool.false_eq_true, if_false]
      rw [hft]
      refine cndT rfl ?_
      refine jn_intro (fun J => ∀ H', Ext H H' → J true H') (fun H' hx => hq H' hx) fun J hJ => cndT rfl (cndT rfl (aw H41 _ (N.ext x41') fun H' hx => ⟨_, rfl, hJ H' (x41'.trans hx)⟩))
end
end Go.Proofs.YtmelbipidffmpaaGreatDoor.Hw

/- From a function's contract to its row: what came in reads as it did. -/
set_option linter.unusedVariables false
set_option linter.unusedSimpArgs false
namespace Go.Proofs.YtmelbipidffmpaaGreatDoor.Hw
open Go
section
variable {H : Type} {enc : TypeId × Value → H} {P : Program} {w w' : World} {base : Nat} {sp : Nat → Bool}
theorem mapM_len {α β : Type} {f : α → Option β} : ∀ {l : List α} {r : List β}, l.mapM f = some r → r.length = l.length
  | [], r, h => by simp at h; subst h; rfl
  | x :: l, r, h => by
    rw [List.mapM_cons] at h
    simp only [bind, Option.bind_eq_some_iff, pure, Option.some.injEq] at h
    obtain ⟨y, _, r', h2, rfl⟩ := h
    simp [mapM_len h2]
/-- A type's parts lie in the table, and a slice's elements take a cell. -/
def partsB (P : Program) (d : Option TypeDesc) : Bool := match d with
  | some (.slice e) => decide (0 < P.cellsOf e) && decide (e < P.types.size)
  | some (.pointer e) => decide (e < P.types.size)
  | some (.struct fs) => fs.toList.all fun f => decide (f.type < P.types.size)
  | some (.array _ e) => decide (e < P.types.size)
  | some (.map _ e) => decide (e < P.types.size)
  | _ => true
/-- So for all types of the table. -/
def cellsB (P : Program) : Bool := (List.range P.types.size).all fun t => partsB P (P.underlying t)
theorem cellsB_ok (h : cellsB P = true) {t : TypeId} (ht : t < P.types.size) : partsB P (P.underlying t) = true := List.all_eq_true.1 h t (List.mem_range.2 ht)
/-- The reading of all cells of a slice is one that is told where to look for more. -/
theorem trodStep_spare {r r' : TypeId → List Value → Option (DataW H × List MemPlace)} {t : TypeId} (hz : partsB P (P.underlying t) = true)
    (hr : ∀ t cs x, t < P.types.size → r t cs = some x → (∀ p ∈ x.2, sp p.block = true) → r' t cs = some x) {cs : List Value} {x : DataW H × List MemPlace}
    (h : DataW.trodStep enc P w base (fun _ => true) true r t cs = some x) (hs : ∀ p ∈ x.2, sp p.block = true) : DataW.trodStep enc P w base sp true r' t cs = some x := by
  unfold DataW.trodStep at h ⊢
  split at h
  case h_6 e a hu =>
    rw [hu] at hz
    have he : e < P.types.size := of_decide_eq_true hz
    simp only [Option.map_eq_some_iff, Option.bind_eq_some_iff] at h ⊢
    obtain ⟨y, ⟨cs', hc, hy⟩, rfl⟩ := h
    exact ⟨y, ⟨cs', hc, hr _ _ _ he hy (fun p hp => hs p (by simp [hp]))⟩, rfl⟩
  case h_8 e a len cap hu =>
    rw [hu] at hz
    simp only [partsB, Bool.and_eq_true, decide_eq_true_eq] at hz
    obtain ⟨hz0, he⟩ := hz
    simp only at h ⊢
    split at h
    · rename_i hc
      rw [if_pos hc]
      simp only [if_true, Option.map_eq_some_iff, Option.bind_eq_some_iff] at h ⊢
      obtain ⟨elems, h1, rest, h2, rfl⟩ := h
      have g : ∀ i y, ((w.cells? base (a.add (i * P.cellsOf e)) (P.cellsOf e)).bind (r e)) = some y → (y ∈ elems ∨ y ∈ rest) → ((w.cells? base (a.add (i * P.cellsOf e)) (P.cellsOf e)).bind (r' e)) = some y := fun i y hy hm => by
        simp only [Option.bind_eq_some_iff] at hy ⊢
        obtain ⟨cs', hc', hy⟩ := hy
        exact ⟨cs', hc', hr _ _ _ he hy (fun p hp => hs p (by
          simp only [List.mem_append, List.mem_flatMap]
          exact .inr ⟨y, hm, hp⟩))⟩
      refine ⟨elems, mapM_carry h1 (fun i y _ hm hy => g i y hy (.inl hm)), rest, ?_, rfl⟩
      have hl2 : rest.length = cap - len := by
        have := mapM_len h2
        simpa using this
      by_cases hspa : sp a.block = true
      · rw [if_pos hspa]
        exact mapM_carry h2 (fun j y _ hm hy => g (len + j) y hy (.inr hm))
      · rw [if_neg hspa]
        have h0 : (elems.length + rest.length) * P.cellsOf e = 0 := by
          refine Classical.byContradiction fun hne => hspa ?_
          have := hs (.cell a.block (a.off + 0)) (by
            simp only [List.mem_append]
            exact .inl (MemPlace.mem_row.2 ⟨0, by omega, rfl⟩))
          exact this
        have : rest.length = 0 := by
          rcases Nat.mul_eq_zero.1 h0 with h3 | h3 <;> omega
        rw [List.length_eq_zero_iff.1 this]
    · cases h
  all_goals first | exact h | skip
  case h_9 fs hu =>
    rw [hu] at hz
    simp only [partsB, List.all_eq_true, decide_eq_true_eq] at hz
    split at h
    · rename_i hc
      rw [if_pos hc]
      simp only [Option.map_eq_some_iff] at h ⊢
      obtain ⟨xs, h1, rfl⟩ := h
      exact ⟨xs, mapM_carry h1 (fun f y hf hm hy => hr _ _ _ (hz f hf) hy (fun p hp => hs p (by
        simp only [List.mem_flatMap]
        exact ⟨y, hm, hp⟩))), rfl⟩
    · cases h
  case h_10 n e hu =>
    rw [hu] at hz
    have he : e < P.types.size := of_decide_eq_true hz
    split at h
    · rename_i hc
      rw [if_pos hc]
      simp only [Option.map_eq_some_iff] at h ⊢
      obtain ⟨xs, h1, rfl⟩ := h
      exact ⟨xs, mapM_carry h1 (fun f y _ hm hy => hr _ _ _ he hy (fun p hp => hs p (by
        simp only [List.mem_flatMap]
        exact ⟨y, hm, hp⟩))), rfl⟩
    · cases h
  case h_14 k e b hu =>
    rw [hu] at hz
    have he : e < P.types.size := of_decide_eq_true hz
    split at h
    · rename_i es clock hm
      simp only
      split at h
      · rename_i hc
        rw [if_pos hc]
        simp only [Option.bind_eq_some_iff] at h ⊢
        obtain ⟨entries, h1, h2⟩ := h
        split at h2
        · rename_i hri
          cases h2
          refine ⟨entries, mapM_carry h1 (fun y z _ hmem hy => ?_), by rw [if_pos hri]⟩
          simp only [Option.bind_eq_some_iff] at hy ⊢
          obtain ⟨key, hk, hy⟩ := hy
          refine ⟨key, hk, ?_⟩
          split at hy
          · rename_i hf
            rw [if_pos hf]
            simp only [Option.map_eq_some_iff] at hy ⊢
            obtain ⟨u, hu2, rfl⟩ := hy
            exact ⟨u, hr _ _ _ he hu2 (fun p hp => hs p (by
              simp only [List.mem_cons, List.mem_flatMap]
              exact .inr ⟨_, hmem, hp⟩)), rfl⟩
          · cases hy
        · cases h2
      · cases h
    · cases h
theorem trod_spare (hz : cellsB P = true) : ∀ (n : Nat) (t : TypeId) (cs : List Value) (x : DataW H × List MemPlace), t < P.types.size →
    DataW.trod enc P w base (fun _ => true) true n t cs = some x → (∀ p ∈ x.2, sp p.block = true) → DataW.trod enc P w base sp true n t cs = some x := by
  intro n
  induction n with
  | zero => intro t cs x _ h; simp [DataW.trod] at h
  | succ n ih =>
    intro t cs x ht h hs
    rw [DataW.trod_step] at h ⊢
    exact trodStep_spare (cellsB_ok hz ht) ih h hs
/-- What came in reads as it did, in a world in which all that was there stays. -/
theorem trodAll_again (hz : cellsB P = true) (hh : ∀ (b : Nat) o, w.heap[b]? = some o → w'.heap[b]? = some o) : ∀ {ts : List TypeId} {vs : List Value} {ds : List (DataW H)} {ps : List MemPlace}, (∀ t ∈ ts, t < P.types.size) →
    DataW.TrodAll enc P w base (fun _ => true) true ts vs ds ps → (∀ p ∈ ps, p.block < w.heap.size) → (∀ p ∈ ps, sp p.block = true) → DataW.TrodAll enc P w' base sp true ts vs ds ps
  | [], vs, ds, ps, _, h, _, _ => by
    obtain ⟨rfl, rfl, rfl⟩ := ChangeShapes.trodAll_nil h
    rfl
  | t :: ts, vs, ds, ps, hts, h, hl, hs => by
    obtain ⟨v, vs', d, ds', a, b, rfl, rfl, rfl, ⟨n, h1⟩, h2⟩ := ChangeShapes.trodAll_cons h
    have hold : ∀ p : MemPlace, p.block < w.heap.size → w'.heap[p.block]? = w.heap[p.block]? := fun p hp => by
      rw [Array.getElem?_eq_getElem hp]
      exact hh _ _ (Array.getElem?_eq_getElem hp)
    have same : ∀ p ∈ a, w.sameAt w' p := fun p hp => by
      have := hold p (hl p (List.mem_append_left _ hp))
      cases p with
      | cell b off => unfold World.sameAt World.cell?; simp only [MemPlace.block] at this; simp only [this]
      | map b => exact this
    exact ⟨a, b, ⟨n, DataW.trod_carry n t _ _ (trod_spare hz n t _ _ (hts t List.mem_cons_self) h1 (fun p hp => hs p (List.mem_append_left _ hp))) same⟩, trodAll_again hz hh (fun t ht => hts t (List.mem_cons_of_mem _ ht)) h2 (fun p hp => hl p (List.mem_append_right _ hp)) (fun p hp => hs p (List.mem_append_right _ hp)), rfl⟩
/-- The row's word for a function that only looks, and makes new memory. -/
theorem post_look {f : Func} {s : ChangeSpec} {apart fresh handsOn again : Bool} {W W' : World} {args : Array Value} {v : Value} {ds gs : List (DataW H)} {before : List MemPlace}
    (hz : cellsB P = true) (hps : ∀ t ∈ f.params.toList, t < P.types.size) (hW : DataW.Whole enc P f.params.toList s.vars apart W args.toList ds gs before) (hsv : s.vars = []) (hargs : (s.fn H (ds ++ gs)).args = ds) (hv2 : (s.fn H (ds ++ gs)).vars = [])
    (hres : ∀ (b : Nat) (sp : Nat → Bool) (hd : Bool), DataW.TrodAll enc P W' b sp hd f.resultTypes.toList (v.resultList f.resultTypes.size) (s.fn H (ds ++ gs)).results [])
    (hh : ∀ (b : Nat) o, W.heap[b]? = some o → W'.heap[b]? = some o) (hos : W'.os = W.os) (hout : W'.output = W.output)
    (hok : ∀ (j : Nat) (t : TypeId) (r : Value), f.resultTypes[j]? = some t → (v.resultList f.resultTypes.size)[j]? = some r → Value.okWide P W' .any 0 t r) :
    s.post enc P f apart fresh handsOn again W args v W' := by
  have hlt : ∀ p ∈ before, p.block < W.heap.size := fun p hp => hW.lt p hp
  have hold : ∀ p ∈ before, (fun b => decide (b < W.heap.size)) p.block = true := fun p hp => by simpa using hlt p hp
  have hW' := hW
  obtain ⟨pa, pv, hA, hV, hpe, hnf, hnd⟩ := hW'
  rw [hsv] at hV
  obtain ⟨hgs, hpv⟩ := ChangeShapes.trodVars_none hV
  subst hpv
  rw [List.append_nil] at hpe
  subst hpe
  have ag : ∀ sp : Nat → Bool, (∀ p ∈ before, sp p.block = true) → DataW.TrodAll enc P W' 0 sp true f.params.toList args.toList (s.fn H (ds ++ gs)).args before := fun sp hsp => by
    rw [hargs]
    exact trodAll_again hz hh hps hA hlt hsp
  have av : ∀ sp : Nat → Bool, DataW.TrodVars enc P W' sp s.vars (s.fn H (ds ++ gs)).vars [] := fun sp => by
    rw [hsv, hv2]
    exact rfl
  have same : ∀ b, b < W.heap.size → W'.heap[b]? = W.heap[b]? := fun b hb => by
    rw [Array.getElem?_eq_getElem hb]; exact hh _ _ (Array.getElem?_eq_getElem hb)
  refine ⟨ds, gs, before, [], before, [], hW, hres _ _ _, ag _ hold, av _, ⟨hos, hout, fun i hi => ?_⟩, fun _ => ?_⟩
  · rw [same i hi]
    cases hx : W.heap[i]? with
    | none => rfl
    | some o =>
      cases o with
      | cells c t fr => exact ⟨rfl, rfl, rfl, fun _ _ => rfl⟩
      | map es clock => exact .inr ⟨rfl, rfl⟩
      | _ => rfl
  · refine ⟨hok, _, _, ([] ++ before) ++ [], ⟨[] ++ before, [], ChangeShapes.trodAll_append (ag _ (fun _ _ => rfl)) (hres _ _ _), av _, rfl, ?_, ?_⟩, ?_⟩
    · intro b off hp
      have hp' : MemPlace.cell b off ∈ before := by simpa using hp
      have h1 := hnf b off hp'
      unfold World.frozen? at h1 ⊢
      rw [same b (hlt _ hp')]
      exact h1
    · intro ha
      have := hnd ha
      simpa using this
    · intro p hp _
      simpa using hp
/-- The whole heap of a world. -/
def hpOf (w : World) : Hp := fun b => w.heap[b]?
theorem cl_hp {b o : Nat} {v : Value} (h : w.cell? ⟨b, o, none⟩ = some v) : cl (hpOf w) b o = some v := by
  unfold World.cell? at h
  unfold cl hpOf
  split at h
  · rename_i c _ _ hb
    simp only at hb
    rw [hb]
    simpa using h
  · cases h
/-- A datum of which no part is too large. -/
def Sz (P : Program) (t : TypeId) (d : DataW H) : Prop := ∀ n ∈ d.weights P t, n ≤ reachBytes
theorem mem_all {e : TypeId} {d : DataW H} {n : Nat} : ∀ {l : List (DataW H)}, d ∈ l → n ∈ d.weights P e → n ∈ DataW.weightsAll P e l
  | x :: r, h, hn => by
    simp only [DataW.weightsAll, List.mem_append]
    rcases List.mem_cons.1 h with h | h
    · subst h; exact .inl hn
    · exact .inr (mem_all h hn)
theorem Sz.two {t : TypeId} {f0 f1 : Field} {d0 d1 : DataW H} (ht : P.underlying t = some (.struct #[f0, f1])) (h : Sz P t (.agg [d0, d1])) : Sz P f0.type d0 ∧ Sz P f1.type d1 := by
  unfold Sz at h
  simp only [DataW.weights, ht, DataW.weightsEach, List.map_cons, List.map_nil, List.append_nil, List.mem_append] at h
  exact ⟨fun n hn => h n (.inl hn), fun n hn => h n (.inr hn)⟩
theorem Sz.three {t : TypeId} {f0 f1 f2 : Field} {d0 d1 d2 : DataW H} (ht : P.underlying t = some (.struct #[f0, f1, f2])) (h : Sz P t (.agg [d0, d1, d2])) : Sz P f0.type d0 ∧ Sz P f1.type d1 ∧ Sz P f2.type d2 := by
  unfold Sz at h
  simp only [DataW.weights, ht, DataW.weightsEach, List.map_cons, List.map_nil, List.append_nil, List.mem_append] at h
  exact ⟨fun n hn => h n (.inl hn), fun n hn => h n (.inr (.inl hn)), fun n hn => h n (.inr (.inr hn))⟩
/-- A slice that came in: its cells, element by element. -/
theorem open_cells {spare : Nat → Bool} {held : Bool} {t e : TypeId} {fuel : Nat} {cs : List Value} {x : DataW H × List MemPlace} (ht : P.underlying t = some (.slice e)) (hC : 0 < P.cellsOf e) (hB : 0 < P.bytesOf e) (hsz : Sz P t x.1) (h : DataW.trod enc P w base spare held fuel t cs = some x) :
    ∃ (A : Option Addr) (n c : Nat) (f : Nat → List Value), cs = [.slice A n c] ∧ n ≤ reachBytes ∧ cellsAt (hpOf w) A ((List.range n).flatMap f) ∧ ∀ i, i < n → (f i).length = P.cellsOf e ∧ ∃ m y, Sz P e y.1 ∧ DataW.trod enc P w base spare held m e (f i) = some y := by
  rcases Go.Deep.open_slice ht h with ⟨rfl, _⟩ | ⟨a, len, cap, m, n, D, Pl, rfl, hb, hl, hm, hmm, hx, hi⟩
  · exact ⟨none, 0, 0, fun _ => [], rfl, by omega, .inl rfl, fun i hi => by omega⟩
  have hlm : len ≤ m := by rw [hmm]; split <;> omega
  have hsz' : (∀ k, k = (len + (m - len)) * P.bytesOf e → k ≤ reachBytes) ∧ ∀ i, i < len → Sz P e (D i) := by
    rw [hx] at hsz
    unfold Sz at hsz
    simp only [DataW.weights, ht, List.length_map, List.length_range, List.mem_cons, List.mem_append] at hsz
    exact ⟨fun k hk => hsz k (.inl hk), fun i hi k hk => hsz k (.inr (.inl (mem_all (List.mem_map_of_mem (f := D) (List.mem_range.2 hi)) hk)))⟩
  have hlr : len ≤ reachBytes := by
    have h1 := hsz'.1 _ rfl
    have h2 : len * 1 ≤ (len + (m - len)) * P.bytesOf e := Nat.mul_le_mul (by omega) hB
    omega
  refine ⟨some a, len, cap, fun i => (w.cells? base (a.add (i * P.cellsOf e)) (P.cellsOf e)).getD [], rfl, hlr, ?_, fun i him => ?_⟩
  rotate_left
  · obtain ⟨cs', hc, ht'⟩ := hi i (by omega)
    refine ⟨?_, n, _, hsz'.2 i him, by simp only [hc, Option.getD_some]; exact ht'⟩
    simp only [hc, Option.getD_some]
    exact (World.cells?_some hc).2.1
  by_cases h0 : len = 0
  · subst h0; exact .inl rfl
  · obtain ⟨cs0, hc0, _⟩ := hi 0 (by omega)
    have hs0 := (World.cells?_some hc0).2.2 0 hC
    have hsp : a.spot = none := by
      obtain ⟨_, hl0, hat⟩ := World.cells?_some hc0
      have h1 := hat 0 hC
      rw [Nat.zero_mul] at h1
      have h2 : (a.add 0).add 0 = a := rfl
      rw [h2, List.getElem?_eq_getElem (by omega)] at h1
      unfold World.cell? at h1
      split at h1
      · split at h1
        · cases h1
        · rename_i hn
          cases hsp : a.spot with
          | none => rfl
          | some q => rw [hsp] at hn; simp at hn
      · cases h1
    obtain ⟨b, o, q⟩ := a
    simp only at hsp
    subst hsp
    have hadd : ∀ o k, (⟨b, o, none⟩ : Addr).add k = ⟨b, o + k, none⟩ := fun o k => by
      unfold Addr.add
      by_cases hk : k = 0
      · subst hk; rfl
      · simp [hk]
    refine .inr ⟨b, o, rfl, fun j v hj => ?_⟩
    have hlen : ∀ i ∈ List.range len, ((w.cells? base ((⟨b, o, none⟩ : Addr).add (i * P.cellsOf e)) (P.cellsOf e)).getD []).length = P.cellsOf e := fun i him => by
      obtain ⟨cs', hc, _⟩ := hi i (by have := List.mem_range.1 him; omega)
      simp only [hc, Option.getD_some]
      exact (World.cells?_some hc).2.1
    have hjl : j < len * P.cellsOf e := by
      have := (List.getElem?_eq_some_iff.1 hj).1
      rw [flat_length hlen, List.length_range] at this
      exact this
    have hdm : j = j / P.cellsOf e * P.cellsOf e + j % P.cellsOf e := by
      have := Nat.div_add_mod j (P.cellsOf e)
      rw [Nat.mul_comm] at this
      exact this.symm
    have hil : j / P.cellsOf e < len := Nat.div_lt_of_lt_mul (by rw [Nat.mul_comm]; exact hjl)
    have hql : j % P.cellsOf e < P.cellsOf e := Nat.mod_lt _ hC
    rw [hdm, flat_get hlen (x := j / P.cellsOf e) (by simp [hil]) hql] at hj
    obtain ⟨cs', hc, _⟩ := hi (j / P.cellsOf e) (by omega)
    simp only [hc, Option.getD_some] at hj
    have h3 := (World.cells?_some hc).2.2 _ hql
    rw [hj, hadd, hadd] at h3
    have h4 := cl_hp h3
    rw [Nat.add_assoc, ← hdm] at h4
    exact h4
/-- A struct of two or three one-cell fields: the fields' own readings. -/
theorem open_two {spare : Nat → Bool} {held : Bool} {t : TypeId} {f0 f1 : Field} {fuel : Nat} {cs : List Value} {x : DataW H × List MemPlace} (ht : P.underlying t = some (.struct #[f0, f1])) (hc : P.cellsOf t = 2)
    (h0 : f0.offset = 0 ∧ P.cellsOf f0.type = 1) (h1 : f1.offset = 1 ∧ P.cellsOf f1.type = 1) (hsz : Sz P t x.1) (h : DataW.trod enc P w base spare held fuel t cs = some x) :
    ∃ v0 v1 n y0 y1, cs = [v0, v1] ∧ (Sz P f0.type y0.1 ∧ Sz P f1.type y1.1) ∧ DataW.trod enc P w base spare held n f0.type [v0] = some y0 ∧ DataW.trod enc P w base spare held n f1.type [v1] = some y1 := by
  obtain ⟨xs, n, _, rfl, hl, hx, hf⟩ := DataW.trod_struct ht h
  rw [hc] at hl
  match cs, hl with
  | [v0, v1], _ =>
    have e0 := hf 0 f0 rfl
    have e1 := hf 1 f1 rfl
    rw [h0.1, h0.2] at e0
    rw [h1.1, h1.2] at e1
    match xs, hx with
    | [y0, y1], _ => exact ⟨v0, v1, n, y0, y1, rfl, Sz.two ht hsz, e0, e1⟩
theorem open_three {spare : Nat → Bool} {held : Bool} {t : TypeId} {f0 f1 f2 : Field} {fuel : Nat} {cs : List Value} {x : DataW H × List MemPlace} (ht : P.underlying t = some (.struct #[f0, f1, f2])) (hc : P.cellsOf t = 3)
    (h0 : f0.offset = 0 ∧ P.cellsOf f0.type = 1) (h1 : f1.offset = 1 ∧ P.cellsOf f1.type = 1) (h2 : f2.offset = 2 ∧ P.cellsOf f2.type = 1) (hsz : Sz P t x.1) (h : DataW.trod enc P w base spare held fuel t cs = some x) :
    ∃ v0 v1 v2 n y0 y1 y2, cs = [v0, v1, v2] ∧ (Sz P f0.type y0.1 ∧ Sz P f1.type y1.1 ∧ Sz P f2.type y2.1) ∧ DataW.trod enc P w base spare held n f0.type [v0] = some y0 ∧ DataW.trod enc P w base spare held n f1.type [v1] = some y1 ∧ DataW.trod enc P w base spare held n f2.type [v2] = some y2 := by
  obtain ⟨xs, n, _, rfl, hl, hx, hf⟩ := DataW.trod_struct ht h
  rw [hc] at hl
  match cs, hl with
  | [v0, v1, v2], _ =>
    have e0 := hf 0 f0 rfl
    have e1 := hf 1 f1 rfl
    have e2 := hf 2 f2 rfl
    rw [h0.1, h0.2] at e0
    rw [h1.1, h1.2] at e1
    rw [h2.1, h2.2] at e2
    match xs, hx with
    | [y0, y1, y2], _ => exact ⟨v0, v1, v2, n, y0, y1, y2, rfl, Sz.three ht hsz, e0, e1, e2⟩
def chk2 (P : Program) (t a b : Nat) : Bool := Nat.beq (P.cellsOf t) 2 && (match P.underlying t with
  | some (.struct fs) => (match fs.toList with
    | [f0, f1] => Nat.beq f0.type a && Nat.beq f0.offset 0 && Nat.beq (P.cellsOf a) 1 && Nat.beq f1.type b && Nat.beq f1.offset 1 && Nat.beq (P.cellsOf b) 1
    | _ => false)
  | _ => false)
def chk3 (P : Program) (t a b c : Nat) : Bool := Nat.beq (P.cellsOf t) 3 && (match P.underlying t with
  | some (.struct fs) => (match fs.toList with
    | [f0, f1, f2] => Nat.beq f0.type a && Nat.beq f0.offset 0 && Nat.beq (P.cellsOf a) 1 && Nat.beq f1.type b && Nat.beq f1.offset 1 && Nat.beq (P.cellsOf b) 1 && Nat.beq f2.type c && Nat.beq f2.offset 2 && Nat.beq (P.cellsOf c) 1
    | _ => false)
  | _ => false)
theorem opn2 {spare : Nat → Bool} {held : Bool} {t a b : Nat} {fuel : Nat} {cs : List Value} {x : DataW H × List MemPlace} (hc : chk2 P t a b = true) (hsz : Sz P t x.1) (h : DataW.trod enc P w base spare held fuel t cs = some x) :
    ∃ v0 v1 n y0 y1, cs = [v0, v1] ∧ (Sz P a y0.1 ∧ Sz P b y1.1) ∧ DataW.trod enc P w base spare held n a [v0] = some y0 ∧ DataW.trod enc P w base spare held n b [v1] = some y1 := by
  unfold chk2 at hc
  rw [Bool.and_eq_true] at hc
  obtain ⟨hc0, hc⟩ := hc
  split at hc
  · rename_i fs hu
    split at hc
    · rename_i f0 f1 hfs
      have : fs = #[f0, f1] := Array.ext' hfs
      subst this
      simp only [Bool.and_eq_true] at hc
      obtain ⟨⟨⟨⟨⟨h1, h2⟩, h3⟩, h4⟩, h5⟩, h6⟩ := hc
      cases Nat.eq_of_beq_eq_true h1
      cases Nat.eq_of_beq_eq_true h4
      exact open_two hu (Nat.eq_of_beq_eq_true hc0) ⟨Nat.eq_of_beq_eq_true h2, Nat.eq_of_beq_eq_true h3⟩ ⟨Nat.eq_of_beq_eq_true h5, Nat.eq_of_beq_eq_true h6⟩ hsz h
    · cases hc
  · cases hc
theorem opn3 {spare : Nat → Bool} {held : Bool} {t a b c : Nat} {fuel : Nat} {cs : List Value} {x : DataW H × List MemPlace} (hc : chk3 P t a b c = true) (hsz : Sz P t x.1) (h : DataW.trod enc P w base spare held fuel t cs = some x) :
    ∃ v0 v1 v2 n y0 y1 y2, cs = [v0, v1, v2] ∧ (Sz P a y0.1 ∧ Sz P b y1.1 ∧ Sz P c y2.1) ∧ DataW.trod enc P w base spare held n a [v0] = some y0 ∧ DataW.trod enc P w base spare held n b [v1] = some y1 ∧ DataW.trod enc P w base spare held n c [v2] = some y2 := by
  unfold chk3 at hc
  rw [Bool.and_eq_true] at hc
  obtain ⟨hc0, hc⟩ := hc
  split at hc
  · rename_i fs hu
    split at hc
    · rename_i f0 f1 f2 hfs
      have : fs = #[f0, f1, f2] := Array.ext' hfs
      subst this
      simp only [Bool.and_eq_true] at hc
      obtain ⟨⟨⟨⟨⟨⟨⟨⟨h1, h2⟩, h3⟩, h4⟩, h5⟩, h6⟩, h7⟩, h8⟩, h9⟩ := hc
      cases Nat.eq_of_beq_eq_true h1
      cases Nat.eq_of_beq_eq_true h4
      cases Nat.eq_of_beq_eq_true h7
      exact open_three hu (Nat.eq_of_beq_eq_true hc0) ⟨Nat.eq_of_beq_eq_true h2, Nat.eq_of_beq_eq_true h3⟩ ⟨Nat.eq_of_beq_eq_true h5, Nat.eq_of_beq_eq_true h6⟩ ⟨Nat.eq_of_beq_eq_true h8, Nat.eq_of_beq_eq_true h9⟩ hsz h
    · cases hc
  · cases hc
end
end Go.Proofs.YtmelbipidffmpaaGreatDoor.Hw

/- Trees: what comes in, opened. -/
set_option linter.unusedVariables false
set_option linter.unusedSimpArgs false
set_option maxRecDepth 100000
namespace Go.Proofs.YtmelbipidffmpaaGreatDoor.Hw
open Go Go.Proofs
theorem u22 : Tryz.prog.underlying 22 = some (.slice 60) := by kernel_rfl
theorem u25 : Tryz.prog.underlying 25 = some (.slice 64) := by kernel_rfl
theorem u28 : Tryz.prog.underlying 28 = some (.slice 46) := by kernel_rfl
theorem u37 : Tryz.prog.underlying 37 = some (.slice 3) := by kernel_rfl
theorem u44 : Tryz.prog.underlying 44 = some (.slice 64) := by kernel_rfl
theorem u62 : Tryz.prog.underlying 62 = some (.int .i64) := by kernel_rfl
theorem u9 : Tryz.prog.underlying 9 = some .string := by kernel_rfl
theorem u4 : Tryz.prog.underlying 4 = some .bool := by kernel_rfl
theorem u3 : Tryz.prog.underlying 3 = some (.int .i64) := by kernel_rfl
theorem k24 : chk3 Tryz.prog 24 22 3 3 = true := by kernel_rfl
theorem k60 : chk2 Tryz.prog 60 28 37 = true := by kernel_rfl
theorem k46 : chk2 Tryz.prog 46 44 3 = true := by kernel_rfl
theorem k64 : chk3 Tryz.prog 64 62 3 9 = true := by kernel_rfl
theorem z60 : Tryz.prog.cellsOf 60 = 2 := by kernel_rfl
theorem z46 : Tryz.prog.cellsOf 46 = 2 := by kernel_rfl
theorem z64 : Tryz.prog.cellsOf 64 = 3 := by kernel_rfl
theorem z3 : Tryz.prog.cellsOf 3 = 1 := by kernel_rfl
theorem y60 : 0 < Tryz.prog.bytesOf 60 := of_decide_eq_true (by kernel_rfl)
theorem y46 : Tryz.prog.bytesOf 46 = 32 := by kernel_rfl
theorem y64 : 0 < Tryz.prog.bytesOf 64 := of_decide_eq_true (by kernel_rfl)
theorem y3 : 0 < Tryz.prog.bytesOf 3 := of_decide_eq_true (by kernel_rfl)
section
variable {X : Type} {enc : TypeId × Value → X} {w : World} {base : Nat} {spare : Nat → Bool} {held : Bool} {fuel : Nat} {cs : List Value} {x : DataW X × List MemPlace}
theorem flat_choose {α : Type} {f : Nat → List Value} {g : α → List Value} : ∀ {n : Nat}, (∀ i, i < n → ∃ a, f i = g a) → ∃ l : List α, l.length = n ∧ (List.range n).flatMap f = l.flatMap g
  | 0, _ => ⟨[], rfl, rfl⟩
  | n + 1, h => by
    obtain ⟨l, h1, h2⟩ := flat_choose (n := n) (fun i hi => h i (by omega))
    obtain ⟨a, ha⟩ := h n (by omega)
    refine ⟨l ++ [a], by simp [h1], ?_⟩
    rw [List.range_succ, List.flatMap_append, List.flatMap_append, h2]
    simp [ha]
theorem open_str (hsz : Sz Tryz.prog 9 x.1) (h : DataW.trod enc Tryz.prog w base spare held fuel 9 cs = some x) : ∃ s : ByteArray, cs = [.string s] ∧ s.size < huge := by
  obtain ⟨s, rfl, hx, _⟩ := DataW.trod_string u9 h
  refine ⟨s, rfl, ?_⟩
  rw [hx] at hsz
  have := hsz s.data.toList.length (by unfold DataW.weights; exact List.mem_singleton.2 rfl)
  have hl : s.size = s.data.toList.length := by rw [Array.length_toList]; rfl
  rw [← hl] at this
  unfold reachBytes at this
  unfold huge; omega
theorem open_cap {t e : TypeId} {A : Option Addr} {n c : Nat} (ht : Tryz.prog.underlying t = some (.slice e)) (h : DataW.trod enc Tryz.prog w base spare held fuel t [.slice A n c] = some x) : n ≤ c := by
  rcases Go.Deep.open_slice ht h with ⟨e, _⟩ | ⟨a, len, cap, m, n', D, Pl, e, hb, hl, _⟩
  · cases e; exact Nat.le_refl _
  · cases e; exact hl
theorem open_wt {t e : TypeId} {A : Option Addr} {n c : Nat} (ht : Tryz.prog.underlying t = some (.slice e)) (hsz : Sz Tryz.prog t x.1) (h : DataW.trod enc Tryz.prog w base spare held fuel t [.slice A n c] = some x) : n * Tryz.prog.bytesOf e ≤ reachBytes := by
  rcases Go.Deep.open_slice ht h with ⟨e, _⟩ | ⟨a, len, cap, m, n', D, Pl, e, hb, hl, hm, hmm, hx, hi⟩
  · cases e; omega
  · cases e
    have hlm : n ≤ m := by rw [hmm]; split <;> omega
    rw [hx] at hsz
    unfold Sz at hsz
    simp only [DataW.weights, ht, List.length_map, List.length_range, List.mem_cons, List.mem_append] at hsz
    exact Nat.le_trans (Nat.mul_le_mul_right _ (by omega)) (hsz _ (.inl rfl))
theorem open_vals {t : TypeId} (ht : Tryz.prog.underlying t = some (.slice 64)) (hsz : Sz Tryz.prog t x.1) (h : DataW.trod enc Tryz.prog w base spare held fuel t cs = some x) : ∃ A n c l, cs = [.slice A n c] ∧ SlAt vlC (hpOf w) A n l ∧ TxS l ∧ n ≤ c := by
  obtain ⟨A, n, c, f, rfl, hm, hc, hf⟩ := open_cells ht (by rw [z64]; decide) y64 hsz h
  obtain ⟨l, h1, h2⟩ := flat_choose (α := {r : Vl // r.txt.size < huge}) (g := fun r => vlC r.1) (n := n) (f := f) fun i hi => by
    obtain ⟨_, m, y, hys, hy⟩ := hf i hi
    obtain ⟨v0, v1, v2, m', y0, y1, y2, e, ⟨_, _, hs2⟩, e0, e1, e2⟩ := opn3 k64 hys hy
    obtain ⟨a, ha, _⟩ := DataW.trod_int u62 e0
    obtain ⟨b, hb, _⟩ := DataW.trod_int u3 e1
    obtain ⟨s, hs, hsl⟩ := open_str hs2 e2
    cases hs; cases ha; cases hb
    exact ⟨⟨⟨a, b, s⟩, hsl⟩, e⟩
  refine ⟨A, n, c, l.map (·.1), rfl, ⟨by simp [h1], ?_, ?_⟩, fun r hr => ?_, open_cap ht h⟩
  · rw [h2] at hc
    rw [List.flatMap_map]; exact hc
  · rw [List.length_map, h1]; unfold huge; unfold reachBytes at hm; omega
  · obtain ⟨q, _, rfl⟩ := List.mem_map.1 hr
    have := q.2
    unfold huge at this; omega
theorem open_ents (hsz : Sz Tryz.prog 28 x.1) (h : DataW.trod enc Tryz.prog w base spare held fuel 28 cs = some x) : ∃ A n c l, cs = [.slice A n c] ∧ SlAt enC (hpOf w) A n l ∧ (∀ e ∈ l, KeyAt (hpOf w) e) ∧ n ≤ c ∧ n ≤ 4398046510976 := by
  obtain ⟨A, n, c, f, rfl, hm, hc, hf⟩ := open_cells u28 (by rw [z46]; decide) (by rw [y46]; decide) hsz h
  obtain ⟨l, h1, h2⟩ := flat_choose (α := {e : EnM // KeyAt (hpOf w) e}) (g := fun r => enC r.1) (n := n) (f := f) fun i hi => by
    obtain ⟨_, m, y, hys, hy⟩ := hf i hi
    obtain ⟨v0, v1, m', y0, y1, e, ⟨hs0, _⟩, e0, e1⟩ := opn2 k46 hys hy
    obtain ⟨A', n', c', l', ha, g1, g2, g3⟩ := open_vals u44 hs0 e0
    obtain ⟨b, hb, _⟩ := DataW.trod_int u3 e1
    cases ha; cases hb
    have hn := g1.len
    subst hn
    exact ⟨⟨⟨A', c', l', b⟩, g1, g3, g2⟩, e⟩
  have hw := open_wt u28 hsz h
  rw [y46] at hw
  refine ⟨A, n, c, l.map (·.1), rfl, ⟨by simp [h1], ?_, ?_⟩, fun r hr => ?_, open_cap u28 h, by unfold reachBytes at hw; omega⟩
  · rw [h2] at hc
    rw [List.flatMap_map]; exact hc
  · rw [List.length_map, h1]; unfold huge; unfold reachBytes at hm; omega
  · obtain ⟨q, _, rfl⟩ := List.mem_map.1 hr
    exact q.2
theorem open_nums {t : TypeId} (ht : Tryz.prog.underlying t = some (.slice 3)) (hsz : Sz Tryz.prog t x.1) (h : DataW.trod enc Tryz.prog w base spare held fuel t cs = some x) : ∃ A n c l, cs = [.slice A n c] ∧ SlAt inC (hpOf w) A n l := by
  obtain ⟨A, n, c, f, rfl, hm, hc, hf⟩ := open_cells ht (by rw [z3]; decide) y3 hsz h
  obtain ⟨l, h1, h2⟩ := flat_choose (g := inC) (n := n) (f := f) fun i hi => by
    obtain ⟨_, m, y, hys, hy⟩ := hf i hi
    obtain ⟨k, hk, _⟩ := DataW.trod_int u3 hy
    exact ⟨k, hk⟩
  refine ⟨A, n, c, l, rfl, ⟨h1.symm, by rw [← h2]; exact hc, ?_⟩⟩
  rw [h1]; unfold huge; unfold reachBytes at hm; omega
theorem open_blocks (hsz : Sz Tryz.prog 22 x.1) (h : DataW.trod enc Tryz.prog w base spare held fuel 22 cs = some x) : ∃ A n c bl, cs = [.slice A n c] ∧ TrAt (hpOf w) A n bl ∧ Fewish bl := by
  obtain ⟨A, n, c, f, rfl, hm, hc, hf⟩ := open_cells u22 (by rw [z60]; decide) y60 hsz h
  obtain ⟨l, h1, h2⟩ := flat_choose (α := {b : NdM // NdAt (hpOf w) b ∧ b.es.length ≤ 4398046510976}) (g := fun r => ndC r.1) (n := n) (f := f) fun i hi => by
    obtain ⟨_, m, y, hys, hy⟩ := hf i hi
    obtain ⟨v0, v1, m', y0, y1, e, ⟨hs0, hs1⟩, e0, e1⟩ := opn2 k60 hys hy
    obtain ⟨A', n', c', l', ha, g1, g2, g3, g4⟩ := open_ents hs0 e0
    obtain ⟨B', k', d', q', hb, r1⟩ := open_nums u37 hs1 e1
    cases ha; cases hb
    have hn := g1.len
    subst hn
    have hk := r1.len
    subst hk
    exact ⟨⟨⟨A', c', l', B', d', q'⟩, ⟨g1, g3, r1, g2⟩, g4⟩, e⟩
  refine ⟨A, n, c, l.map (·.1), rfl, ⟨⟨by simp [h1], ?_, ?_⟩, fun b hb => ?_⟩, fun b hb => ?_⟩
  · rw [h2] at hc
    rw [List.flatMap_map]; exact hc
  · rw [List.length_map, h1]; unfold huge; unfold reachBytes at hm; omega
  · obtain ⟨q, _, rfl⟩ := List.mem_map.1 hb
    exact q.2.1
  · obtain ⟨q, _, rfl⟩ := List.mem_map.1 hb
    exact q.2.2
theorem open_tree (hsz : Sz Tryz.prog 24 x.1) (h : DataW.trod enc Tryz.prog w base spare held fuel 24 cs = some x) : ∃ A n c root cols bl, cs = [.slice A n c, .int .i64 root, .int .i64 cols] ∧ TrAt (hpOf w) A n bl ∧ Fewish bl := by
  obtain ⟨v0, v1, v2, m, y0, y1, y2, rfl, ⟨hs0, hs1, hs2⟩, e0, e1, e2⟩ := opn3 k24 hsz h
  obtain ⟨A, n, c, bl, h0, g0, g1⟩ := open_blocks hs0 e0
  obtain ⟨a, ha, _⟩ := DataW.trod_int u3 e1
  obtain ⟨b, hb, _⟩ := DataW.trod_int u3 e2
  cases h0; cases ha; cases hb
  exact ⟨A, n, c, a, b, bl, rfl, g0, g1⟩
end
open Go.ChangeShapes Go.WideShapes Go.ChangeAt Go.RowKit
theorem ownK : ownKnob Tryz.prog.godebug = none := by kernel_rfl
theorem cellsB_prog : cellsB Tryz.prog = true := by kernel_rfl
def isStruct (d : Option TypeDesc) : Bool := match d with | some (.struct _) => true | _ => false
theorem s24 : isStruct (Tryz.prog.underlying 24) = true := by kernel_rfl
theorem s46 : isStruct (Tryz.prog.underlying 46) = true := by kernel_rfl
theorem agg_of {P : Program} {W : World} {base : Nat} {t : TypeId} {v : Value} {l : List Value} (hs : isStruct (P.underlying t) = true) (h : Value.okWide P W .any base t v) (hc : v.cells.toList = l) : v = .agg l.toArray := by
  cases hu : P.underlying t with
  | none => rw [hu] at hs; cases hs
  | some d =>
    cases d
    case struct fs =>
      obtain ⟨cs, rfl, _⟩ := okWide_struct hu h
      rw [← hc]; rfl
    all_goals (rw [hu] at hs; cases hs)
/-- A Boolean result's reading. -/
theorem res_bool {X : Type} {enc : TypeId × Value → X} {W : World} (b : Nat) (sp : Nat → Bool) (hd : Bool) (x : Bool) : DataW.TrodAll enc Tryz.prog W b sp hd [4] [.bool x] [.lit (.bool x)] [] :=
  trodAll_mk1 ⟨1, by simp only [DataW.trod, Value.cells, u4]⟩
theorem ok_bool {W : World} (x : Bool) : Value.okWide Tryz.prog W .any 0 4 (.bool x) := by
  unfold Value.okWide; rw [u4]; simp only [Cell.okWide, u4]; exact trivial
theorem slice_of {P : Program} {W : World} {base : Nat} {t e : TypeId} {v : Value} {A : Option Addr} {n c : Nat} (hs : P.underlying t = some (.slice e)) (h : Value.okWide P W .any base t v) (hc : v.cells.toList = [.slice A n c]) : v = .slice A n c := by
  simp only [Value.okWide, hs, Cell.okWide] at h
  cases v <;> simp_all [Cell.ok, Value.cells]
/-- What the row wants to hear of a result that is a Boolean. -/
theorem ok_bools {W : World} {f : Func} (hf : f.resultTypes = #[4]) (x : Bool) : ∀ (j : Nat) (t : TypeId) (r : Value), f.resultTypes[j]? = some t → ((Value.bool x).resultList f.resultTypes.size)[j]? = some r → Value.okWide Tryz.prog W .any 0 t r := by
  intro j t r h1 h2
  rw [hf] at h1 h2
  match j with
  | 0 =>
    cases (h1 : some 4 = some t)
    cases (h2 : some (Value.bool x) = some r)
    exact ok_bool x
  | j + 1 => cases h1
/-! ### the one variable -/
theorem nullN : Tryz.prog.globalNamed "justiciar/value.Null" = some 0 := by kernel_rfl
theorem nullT : (Tryz.prog.globals[0]?).map (·.type) = some 64 := by kernel_rfl
def theLaid : List (String × DataW Unit) := [("justiciar/value.Null", Rows.laid_justiciar_value_Null)]
theorem null_of_laid {W : World} (h : laidMet Tryz.prog theLaid W) : NullAt (hpOf W) := by
  obtain ⟨ps, ⟨g, t, cs, fuel, p, q, hg, ht, hvar, hd, _, _⟩, _⟩ := h
  obtain rfl := Option.some.inj (nullN.symm.trans hg)
  obtain rfl := Option.some.inj (nullT.symm.trans ht)
  have hk := k64
  unfold chk3 at hk
  rw [Bool.and_eq_true] at hk
  obtain ⟨hk0, hk⟩ := hk
  split at hk
  · rename_i fs hu
    split at hk
    · rename_i f0 f1 f2 hfs
      have : fs = #[f0, f1, f2] := Array.ext' hfs
      subst this
      simp only [Bool.and_eq_true] at hk
      obtain ⟨⟨⟨⟨⟨⟨⟨⟨h1, h2⟩, h3⟩, h4⟩, h5⟩, h6⟩, h7⟩, h8⟩, h9⟩ := hk
      have a0 := Nat.eq_of_beq_eq_true h1
      have a1 := Nat.eq_of_beq_eq_true h4
      have a2 := Nat.eq_of_beq_eq_true h7
      have b0 := Nat.eq_of_beq_eq_true h2
      have b1 := Nat.eq_of_beq_eq_true h5
      have b2 := Nat.eq_of_beq_eq_true h8
      have c0 := Nat.eq_of_beq_eq_true h3
      have c1 := Nat.eq_of_beq_eq_true h6
      have c2 := Nat.eq_of_beq_eq_true h9
      obtain ⟨xs, n, _, hx, hlen, hxl, hf⟩ := DataW.trod_struct hu hd
      rw [z64] at hlen
      have e0 := hf 0 f0 rfl
      have e1 := hf 1 f1 rfl
      have e2 := hf 2 f2 rfl
      rw [a0, b0, c0] at e0
      rw [a1, b1, c1] at e1
      rw [a2, b2, c2] at e2
      generalize hcl : cs.toList = l at *
      match l, hlen, xs, hxl with
      | [v0, v1, v2], _, [y0, y1, y2], _ =>
        obtain ⟨o0, g0, w0, _⟩ := DataW.trod_int u62 e0
        obtain ⟨o1, g1, w1, _⟩ := DataW.trod_int u3 e1
        obtain ⟨s, g2, w2, _⟩ := DataW.trod_string u9 e2
        obtain ⟨hx1, _⟩ := Prod.mk.inj hx
        have hx1 : DataW.agg [.lit (.int .i64 0), .lit (.int .i64 0), .lit (.string [])] = DataW.agg [y0.1, y1.1, y2.1] := hx1
        injection hx1 with hx1
        injection hx1 with q0 hx1
        injection hx1 with q1 hx1
        injection hx1 with q2 _
        rw [show y0.1 = _ from congrArg Prod.fst w0] at q0
        rw [show y1.1 = _ from congrArg Prod.fst w1] at q1
        rw [show y2.1 = _ from congrArg Prod.fst w2] at q2
        have r0 : o0 = 0 := by simpa using q0.symm
        have r1 : o1 = 0 := by simpa using q1.symm
        have r2 : s.data.toList = [] := by simpa using q2.symm
        have r2 : s = { data := #[] } := by
          cases s with
          | mk d => simp at r2; rw [r2]
        have g0 : v0 = .int .i64 o0 := by simpa using g0
        have g1 : v1 = .int .i64 o1 := by simpa using g1
        have g2 : v2 = .string s := by simpa using g2
        subst r0 r1 r2
        have hcs : cs = #[v0, v1, v2] := Array.ext' hcl
        subst hcs
        rw [g0, g1, g2] at hvar
        exact ⟨cl_hp (by simpa using World.var?_cell hg hvar 0), cl_hp (by simpa using World.var?_cell hg hvar 1), cl_hp (by simpa using World.var?_cell hg hvar 2)⟩
    · cases hk
  · cases hk
theorem laid_met (os : Os) (args : Array Value) : laidMet Tryz.prog theLaid ((World.holding Tryz.prog os ⟨#[], #[], []⟩).forCall (fun _ _ => 0) ⟨#[], args, []⟩).memory :=
  laidMet_of_run (ps := [.cell 0 0, .cell 0 1, .cell 0 2]) 8 (by kernel_rfl) (by kernel_rfl) (by kernel_rfl)
end Go.Proofs.YtmelbipidffmpaaGreatDoor.Hw

/- The rows TreeTells, TreeWays and TreeFinds; awake is asked for. -/
set_option linter.unusedVariables false
set_option linter.unusedSimpArgs false
set_option maxRecDepth 100000
namespace Go.Proofs.YtmelbipidffmpaaGreatDoor
open Go.ChangeShapes Go.WideShapes Go.ChangeAt Go.RowKit
open Hw
theorem tells_lifted (aw : Awake) (os : Os) (started : os.Started) (H : Type) (enc : TypeId × Value → H) :
    ReturnsInHanded {} Tryz.checked os 3 .any (fun w args => (Rows.treeTellsSpec.pre enc Tryz.prog Tryz.f3 Rows.treeTellsRow.domain false w args ∧ laidMet Tryz.prog Rows.treeTellsRow.laid w) ∧ sizedMet enc Tryz.prog Tryz.f3 (OpenSpec.ofChange Rows.treeTellsSpec) false w args)
      (Rows.treeTellsSpec.post enc Tryz.prog Tryz.f3 Rows.treeTellsRow.apart Rows.treeTellsRow.fresh Rows.treeTellsRow.handsOn Rows.treeTellsRow.again) := by
  refine returnsInHanded_of_change_and (C := Tryz.checked) (X := fun w _ => laidMet Tryz.prog theLaid w) (fun _ _ _ hh h => h.of_heap hh) ownK started (by kernel_rfl) Tryz.func3
    (ChangeSpec.witness_at (enc := enc) (C := Tryz.checked) (os := os) (X := fun w _ => laidMet Tryz.prog theLaid w) false (World.holding Tryz.prog os ⟨#[], #[], []⟩) #[.agg #[.slice none 0 0, .int .i64 0, .int .i64 0], .slice none 0 0] 8 rfl (by kernel_rfl) (by kernel_rfl) (by kernel_rfl) (by kernel_rfl) (by kernel_rfl) (laid_met os _)) ?_
  intro W base args ds gs before hval0 hW hcnd hsz0 hL _
  have hval : ∀ (j : Nat) t v, Tryz.f3.params[j]? = some t → args[j]? = some v → Value.okWide Tryz.prog W .any base t v := hval0
  have hsz : (DataW.weightsEach Tryz.prog (Tryz.f3.params.toList ++ Rows.treeTellsSpec.plain.varTypes Tryz.prog) (ds ++ gs)).all (· ≤ reachBytes) = true := hsz0
  have hW' := hW
  obtain ⟨p, q, hA0, hV, rfl, hfz, hnd⟩ := hW
  have hA : DataW.TrodAll enc Tryz.prog W 0 (fun _ => true) true Tryz.f3.params.toList args.toList ds p := hA0
  rw [Tryz.params3] at hA hval hsz
  obtain ⟨v0, v1, d0, d1, p0, p1, rfl, rfl, rfl, h0, h1⟩ := trodAll_two hA
  obtain ⟨rfl, rfl⟩ := trodVars_none hV
  have hs0 : Sz Tryz.prog 24 d0 := fun n hn => by
    have := List.all_eq_true.1 hsz n (DataW.weights_mem_each (j := 0) rfl rfl n hn)
    exact of_decide_eq_true this
  have hs1 : Sz Tryz.prog 25 d1 := fun n hn => by
    have := List.all_eq_true.1 hsz n (DataW.weights_mem_each (j := 1) rfl rfl n hn)
    exact of_decide_eq_true this
  obtain ⟨fl0, e0⟩ := h0
  obtain ⟨fl1, e1⟩ := h1
  obtain ⟨A, n, c, root, cols, bl, hc0, hT, hF⟩ := open_tree hs0 e0
  obtain ⟨kA, kn, kc, key, hc1, hS, tS, _⟩ := open_vals u25 hs1 e1
  have g0 := agg_of s24 (hval 0 24 v0 rfl rfl) hc0
  have g1 := slice_of u25 (hval 1 25 v1 rfl rfl) hc1
  subst g0
  subst g1
  have key := c3 (kc := kc) (c := c) (root := root) (cols := cols) (Q := fun v H' => v = .bool true ∧ Ext (hpOf W) H') aw (null_of_laid hL) hT hF hS tS (fun H' hx => ⟨rfl, hx⟩) W (fun b o h => h)
  refine Calls.mono key ?_
  rintro e W' ⟨v, H', rfl, ⟨rfl, hx⟩, hh, hf, _⟩
  refine ⟨_, rfl, post_look (f := Tryz.f3) cellsB_prog (by rw [Tryz.params3]; decide) hW' rfl rfl rfl (fun b sp hd => ?_) (fun b o h => hh b o (hx b o h)) hf.1 hf.2.2.1 ?_⟩
  · exact res_bool b sp hd true
  · exact ok_bools rfl true
theorem tells_row (aw : Awake) : Rows.TreeTellsSaid :=
  OpenClaim.holds_of_wide 3 Tryz.f3 rfl rfl rfl rfl rfl rfl rfl ⟨rfl, rfl, rfl, rfl, rfl⟩ rfl rfl rfl rfl rfl (by kernel_rfl) Tryz.func3 (by kernel_rfl)
    (of_decide_eq_true (by kernel_rfl)) (by unfold Func.isWrapper; first | (rw [if_pos (by decide +kernel)]; kernel_rfl) | (rw [if_neg (by decide +kernel)]; exact ⟨rfl, rfl⟩))
    (fun os started H enc _ => tells_lifted aw os started H enc)
theorem wants24 : Tryz.prog.wantsStandIn 24 = false := by kernel_rfl
theorem wants25 : Tryz.prog.wantsStandIn 25 = false := by kernel_rfl
theorem wants46 : Tryz.prog.wantsStandIn 46 = false := by kernel_rfl
theorem tells_card (aw : Awake) : Rows.TreeTellsCardSaid :=
  Claim7.holds_tied_plain_at .later [] [.data] true (true, "23305348b4ba4c31fb5a626f45f9e6925a27ab1b066bd0b37f3c06df2b996abf") false
    (tells_row aw) (fun _ h => by cases h) (by kernel_rfl) (fun _ h => by cases h) treeTells_row_tie rfl ⟨rfl, rfl⟩ (by kernel_rfl) rfl
    (fun f fn hf hfn => by
      obtain rfl : f = 3 := Option.some.inj ((show Tryz.prog.funcNamed "justiciar/justiciarlaw17.TreeTells" = some 3 by kernel_rfl).symm.trans hf) |>.symm
      obtain rfl : fn = Tryz.f3 := (Option.some.inj (Tryz.func3.symm.trans hfn)).symm
      exact ⟨by kernel_rfl, fun j t ht => by
        rw [Tryz.params3] at ht
        rcases j with _ | _ | j
        · cases (Option.some.inj ht); exact wants24
        · cases (Option.some.inj ht); exact wants25
        · simp at ht⟩)
    (by kernel_rfl)
end Go.Proofs.YtmelbipidffmpaaGreatDoor

/- The row TreeWays; awake is asked for. -/
set_option linter.unusedVariables false
set_option linter.unusedSimpArgs false
set_option maxRecDepth 100000
namespace Go.Proofs.YtmelbipidffmpaaGreatDoor
open Go.ChangeShapes Go.WideShapes Go.ChangeAt Go.RowKit
open Hw
theorem ways_lifted (aw : Awake) (os : Os) (started : os.Started) (H : Type) (enc : TypeId × Value → H) :
    ReturnsInHanded {} Tryz.checked os 8 .any (fun w args => (Rows.treeWaysSpec.pre enc Tryz.prog Tryz.f8 Rows.treeWaysRow.domain false w args ∧ laidMet Tryz.prog Rows.treeWaysRow.laid w) ∧ sizedMet enc Tryz.prog Tryz.f8 (OpenSpec.ofChange Rows.treeWaysSpec) false w args)
      (Rows.treeWaysSpec.post enc Tryz.prog Tryz.f8 Rows.treeWaysRow.apart Rows.treeWaysRow.fresh Rows.treeWaysRow.handsOn Rows.treeWaysRow.again) := by
  refine returnsInHanded_of_change_and (C := Tryz.checked) (X := fun w _ => laidMet Tryz.prog theLaid w) (fun _ _ _ hh h => h.of_heap hh) ownK started (by kernel_rfl) Tryz.func8
    (ChangeSpec.witness_at (enc := enc) (C := Tryz.checked) (os := os) (X := fun w _ => laidMet Tryz.prog theLaid w) false (World.holding Tryz.prog os ⟨#[], #[], []⟩) #[.agg #[.slice none 0 0, .int .i64 0, .int .i64 0], .slice none 0 0] 8 rfl (by kernel_rfl) (by kernel_rfl) (by kernel_rfl) (by kernel_rfl) (by kernel_rfl) (laid_met os _)) ?_
  intro W base args ds gs before hval0 hW hcnd hsz0 hL _
  have hval : ∀ (j : Nat) t v, Tryz.f8.params[j]? = some t → args[j]? = some v → Value.okWide Tryz.prog W .any base t v := hval0
  have hsz : (DataW.weightsEach Tryz.prog (Tryz.f8.params.toList ++ Rows.treeWaysSpec.plain.varTypes Tryz.prog) (ds ++ gs)).all (· ≤ reachBytes) = true := hsz0
  have hW' := hW
  obtain ⟨p, q, hA0, hV, rfl, hfz, hnd⟩ := hW
  have hA : DataW.TrodAll enc Tryz.prog W 0 (fun _ => true) true Tryz.f8.params.toList args.toList ds p := hA0
  rw [Tryz.params8] at hA hval hsz
  obtain ⟨v0, v1, d0, d1, p0, p1, rfl, rfl, rfl, h0, h1⟩ := trodAll_two hA
  obtain ⟨rfl, rfl⟩ := trodVars_none hV
  have hs0 : Sz Tryz.prog 24 d0 := fun n hn => by
    have := List.all_eq_true.1 hsz n (DataW.weights_mem_each (j := 0) rfl rfl n hn)
    exact of_decide_eq_true this
  have hs1 : Sz Tryz.prog 25 d1 := fun n hn => by
    have := List.all_eq_true.1 hsz n (DataW.weights_mem_each (j := 1) rfl rfl n hn)
    exact of_decide_eq_true this
  obtain ⟨fl0, e0⟩ := h0
  obtain ⟨fl1, e1⟩ := h1
  obtain ⟨A, n, c, root, cols, bl, hc0, hT, hF⟩ := open_tree hs0 e0
  obtain ⟨kA, kn, kc, key, hc1, hS, tS, _⟩ := open_vals u25 hs1 e1
  have g0 := agg_of s24 (hval 0 24 v0 rfl rfl) hc0
  have g1 := slice_of u25 (hval 1 25 v1 rfl rfl) hc1
  subst g0
  subst g1
  have key := c8 (kc := kc) (c := c) (root := root) (cols := cols) (Q := fun v H' => v = .bool true ∧ Ext (hpOf W) H') aw (null_of_laid hL) hT hF hS tS (fun H' hx => ⟨rfl, hx⟩) W (fun b o h => h)
  refine Calls.mono key ?_
  rintro e W' ⟨v, H', rfl, ⟨rfl, hx⟩, hh, hf, _⟩
  refine ⟨_, rfl, post_look (f := Tryz.f8) cellsB_prog (by rw [Tryz.params8]; decide) hW' rfl rfl rfl (fun b sp hd => ?_) (fun b o h => hh b o (hx b o h)) hf.1 hf.2.2.1 ?_⟩
  · exact res_bool b sp hd true
  · exact ok_bools rfl true
theorem ways_row (aw : Awake) : Rows.TreeWaysSaid :=
  OpenClaim.holds_of_wide 8 Tryz.f8 rfl rfl rfl rfl rfl rfl rfl ⟨rfl, rfl, rfl, rfl, rfl⟩ rfl rfl rfl rfl rfl (by kernel_rfl) Tryz.func8 (by kernel_rfl)
    (of_decide_eq_true (by kernel_rfl)) (by unfold Func.isWrapper; first | (rw [if_pos (by decide +kernel)]; kernel_rfl) | (rw [if_neg (by decide +kernel)]; exact ⟨rfl, rfl⟩))
    (fun os started H enc _ => ways_lifted aw os started H enc)
theorem ways_card (aw : Awake) : Rows.TreeWaysCardSaid :=
  Claim7.holds_tied_plain_at .later [] [.data] true (true, "23305348b4ba4c31fb5a626f45f9e6925a27ab1b066bd0b37f3c06df2b996abf") false
    (ways_row aw) (fun _ h => by cases h) (by kernel_rfl) (fun _ h => by cases h) treeWays_row_tie rfl ⟨rfl, rfl⟩ (by kernel_rfl) rfl
    (fun f fn hf hfn => by
      obtain rfl : f = 8 := Option.some.inj ((show Tryz.prog.funcNamed "justiciar/justiciarlaw17.TreeWays" = some 8 by kernel_rfl).symm.trans hf) |>.symm
      obtain rfl : fn = Tryz.f8 := (Option.some.inj (Tryz.func8.symm.trans hfn)).symm
      exact ⟨by kernel_rfl, fun j t ht => by
        rw [Tryz.params8] at ht
        rcases j with _ | _ | j
        · cases (Option.some.inj ht); exact wants24
        · cases (Option.some.inj ht); exact wants25
        · simp at ht⟩)
    (by kernel_rfl)
end Go.Proofs.YtmelbipidffmpaaGreatDoor

/- The row TreeFinds; awake is asked for. -/
set_option linter.unusedVariables false
set_option linter.unusedSimpArgs false
set_option maxRecDepth 100000
namespace Go.Proofs.YtmelbipidffmpaaGreatDoor
open Go.ChangeShapes Go.WideShapes Go.ChangeAt Go.RowKit
open Hw
theorem finds_lifted (aw : Awake) (os : Os) (started : os.Started) (H : Type) (enc : TypeId × Value → H) :
    ReturnsInHanded {} Tryz.checked os 4 .any (fun w args => (Rows.treeFindsSpec.pre enc Tryz.prog Tryz.f4 Rows.treeFindsRow.domain false w args ∧ laidMet Tryz.prog Rows.treeFindsRow.laid w) ∧ sizedMet enc Tryz.prog Tryz.f4 (OpenSpec.ofChange Rows.treeFindsSpec) false w args)
      (Rows.treeFindsSpec.post enc Tryz.prog Tryz.f4 Rows.treeFindsRow.apart Rows.treeFindsRow.fresh Rows.treeFindsRow.handsOn Rows.treeFindsRow.again) := by
  refine returnsInHanded_of_change_and (C := Tryz.checked) (X := fun w _ => laidMet Tryz.prog theLaid w) (fun _ _ _ hh h => h.of_heap hh) ownK started (by kernel_rfl) Tryz.func4
    (ChangeSpec.witness_at (enc := enc) (C := Tryz.checked) (os := os) (X := fun w _ => laidMet Tryz.prog theLaid w) false (World.holding Tryz.prog os ⟨#[], #[], []⟩) #[.agg #[.slice none 0 0, .int .i64 0, .int .i64 0], .slice none 0 0, .slice none 0 0] 8 rfl (by kernel_rfl) (by kernel_rfl) (by kernel_rfl) (by kernel_rfl) (by kernel_rfl) (laid_met os _)) ?_
  intro W base args ds gs before hval0 hW hcnd hsz0 hL _
  have hval : ∀ (j : Nat) t v, Tryz.f4.params[j]? = some t → args[j]? = some v → Value.okWide Tryz.prog W .any base t v := hval0
  have hsz : (DataW.weightsEach Tryz.prog (Tryz.f4.params.toList ++ Rows.treeFindsSpec.plain.varTypes Tryz.prog) (ds ++ gs)).all (· ≤ reachBytes) = true := hsz0
  have hW' := hW
  obtain ⟨p, q, hA0, hV, rfl, hfz, hnd⟩ := hW
  have hA : DataW.TrodAll enc Tryz.prog W 0 (fun _ => true) true Tryz.f4.params.toList args.toList ds p := hA0
  rw [Tryz.params4] at hA hval hsz
  obtain ⟨v0, v1, v2, d0, d1, d2, p0, p1, p2, rfl, rfl, rfl, h0, h1, h2⟩ := trodAll_three hA
  obtain ⟨rfl, rfl⟩ := trodVars_none hV
  have hs0 : Sz Tryz.prog 24 d0 := fun n hn => by
    have := List.all_eq_true.1 hsz n (DataW.weights_mem_each (j := 0) rfl rfl n hn)
    exact of_decide_eq_true this
  have hs1 : Sz Tryz.prog 25 d1 := fun n hn => by
    have := List.all_eq_true.1 hsz n (DataW.weights_mem_each (j := 1) rfl rfl n hn)
    exact of_decide_eq_true this
  have hs2 : Sz Tryz.prog 25 d2 := fun n hn => by
    have := List.all_eq_true.1 hsz n (DataW.weights_mem_each (j := 2) rfl rfl n hn)
    exact of_decide_eq_true this
  obtain ⟨fl0, e0⟩ := h0
  obtain ⟨fl2, e2⟩ := h2
  obtain ⟨fl1, e1⟩ := h1
  obtain ⟨A, n, c, root, cols, bl, hc0, hT, hF⟩ := open_tree hs0 e0
  obtain ⟨kA, kn, kc, key, hc1, hS, tS, _⟩ := open_vals u25 hs1 e1
  obtain ⟨hA2, hn2, hc2', high, hc2, hS2, tS2, _⟩ := open_vals u25 hs2 e2
  have g0 := agg_of s24 (hval 0 24 v0 rfl rfl) hc0
  have g1 := slice_of u25 (hval 1 25 v1 rfl rfl) hc1
  have g2 := slice_of u25 (hval 2 25 v2 rfl rfl) hc2
  subst g0
  subst g2
  subst g1
  have key := c4 (kc := hc2') (lc := kc) (c := c) (root := root) (cols := cols) (Q := fun v H' => v = .bool true ∧ Ext (hpOf W) H') aw (null_of_laid hL) hT hF hS hS2 tS tS2 (fun H' hx => ⟨rfl, hx⟩) W (fun b o h => h)
  refine Calls.mono key ?_
  rintro e W' ⟨v, H', rfl, ⟨rfl, hx⟩, hh, hf, _⟩
  refine ⟨_, rfl, post_look (f := Tryz.f4) cellsB_prog (by rw [Tryz.params4]; decide) hW' rfl rfl rfl (fun b sp hd => ?_) (fun b o h => hh b o (hx b o h)) hf.1 hf.2.2.1 ?_⟩
  · exact res_bool b sp hd true
  · exact ok_bools rfl true
theorem finds_row (aw : Awake) : Rows.TreeFindsSaid :=
  OpenClaim.holds_of_wide 4 Tryz.f4 rfl rfl rfl rfl rfl rfl rfl ⟨rfl, rfl, rfl, rfl, rfl⟩ rfl rfl rfl rfl rfl (by kernel_rfl) Tryz.func4 (by kernel_rfl)
    (of_decide_eq_true (by kernel_rfl)) (by unfold Func.isWrapper; first | (rw [if_pos (by decide +kernel)]; kernel_rfl) | (rw [if_neg (by decide +kernel)]; exact ⟨rfl, rfl⟩))
    (fun os started H enc _ => finds_lifted aw os started H enc)
theorem finds_card (aw : Awake) : Rows.TreeFindsCardSaid :=
  Claim7.holds_tied_plain_at .later [] [.data] true (true, "23305348b4ba4c31fb5a626f45f9e6925a27ab1b066bd0b37f3c06df2b996abf") false
    (finds_row aw) (fun _ h => by cases h) (by kernel_rfl) (fun _ h => by cases h) treeFinds_row_tie rfl ⟨rfl, rfl⟩ (by kernel_rfl) rfl
    (fun f fn hf hfn => by
      obtain rfl : f = 4 := Option.some.inj ((show Tryz.prog.funcNamed "justiciar/justiciarlaw17.TreeFinds" = some 4 by kernel_rfl).symm.trans hf) |>.symm
      obtain rfl : fn = Tryz.f4 := (Option.some.inj (Tryz.func4.symm.trans hfn)).symm
      exact ⟨by kernel_rfl, fun j t ht => by
        rw [Tryz.params4] at ht
        rcases j with _ | _ | _ | j
        · cases (Option.some.inj ht); exact wants24
        · cases (Option.some.inj ht); exact wants25
        · cases (Option.some.inj ht); exact wants25
        · simp at ht⟩)
    (by kernel_rfl)
end Go.Proofs.YtmelbipidffmpaaGreatDoor
