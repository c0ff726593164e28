/- Bm HwFe Bn Bo HwRow Bp Bq HwFd (joined by merge.py) -/
import Derived.Test.YtmelbipidffmpaaGreatDoorTm5
import Derived.Test.YtmelbipidffmpaaGreatDoorTm3
import Derived.ChangeReads
import Derived.ChangeSame
import Derived.Deep.Slices
import Derived.SizedLaws
import Derived.Test.YtmelbipidffmpaaGreatDoorRows
import Derived.ProofKit
import Derived.OpenShut
import Derived.LaidLaws
import Derived.Handed
import Derived.Test.YtmelbipidffmpaaGreatDoorTie
import Derived.Test.YtmelbipidffmpaaGreatDoorCards
/- Trees: Between and Find, of both. -/
set_option linter.unusedVariables false
set_option linter.unusedSimpArgs false
set_option linter.unusedSectionVars false
set_option maxRecDepth 20000
namespace Go.Proofs.YtmelbipidffmpaaGreatDoor.Hw
open Go Go.Proofs
theorem good_lt {cols : Int} {l : List EnM} (h : goodE cols l = true) : ∀ {i j : Nat} {a b : EnM}, i < j → l[i]? = some a → l[j]? = some b → ordE a b < 0
  | i, 0, _, _, hij, _, _ => by omega
  | i, j + 1, a, b, hij, ha, hb => by
    have hlt := (List.getElem?_eq_some_iff.1 hb).1
    obtain ⟨d, hd⟩ := get_of (l := l) (i := j) (by omega)
    have hok := List.all_eq_true.1 h (j + 1) (List.mem_range.2 hlt)
    unfold okAt at hok
    rw [hb] at hok
    simp only [Bool.and_eq_true] at hok
    have h2 := hok.2
    rw [if_neg (by omega), Nat.add_sub_cancel, hd] at h2
    have h2 : ordE d b < 0 := of_decide_eq_true h2
    by_cases e : i = j
    · subst e; rw [ha] at hd; cases hd; exact h2
    · exact ordE_ok.lt_of (good_lt h (by omega) ha hd) (by omega)
theorem good_le {cols : Int} {l : List EnM} (h : goodE cols l = true) {i j : Nat} {a b : EnM} (hij : i ≤ j) (ha : l[i]? = some a) (hb : l[j]? = some b) : ordE a b ≤ 0 := by
  by_cases e : i = j
  · subst e; rw [ha] at hb; cases hb; rw [ordE_ok.self]; omega
  · have := good_lt h (show i < j by omega) ha hb; omega
def passE (low high : List Vl) (e : EnM) : Bool := !decide (cmpK e low < 0) && decide (cmpK e high ≤ 0)
def betw (l : List EnM) (low high : List Vl) : List Int := (l.filter (passE low high)).map EnM.id
def turned (back : Bool) (l : List Int) : List Int := if back = true then l.reverse else l
def betT (t : Option Sv) (cols : Int) (low high : List Vl) (back : Bool) : List Int × Int := match t with
  | none => ([], 2)
  | some S => if (keyG 0 cols low && keyG 0 cols high) = true then (turned back (betw S.out low high), 0) else ([], 2)
theorem tw_lt {α : Type} {p : α → Bool} : ∀ {l : List α} {i : Nat} {a : α}, i < (l.takeWhile p).length → l[i]? = some a → p a = true
  | [], i, a, h, _ => by simp at h
  | x :: r, 0, a, h, ha => by
    have : x = a := by simpa using ha
    subst this
    cases hp : p x with
    | true => rfl
    | false => rw [List.takeWhile_cons, hp] at h; simp at h
  | x :: r, i + 1, a, h, ha => by
    cases hp : p x with
    | true =>
      rw [List.takeWhile_cons, hp] at h
      exact tw_lt (l := r) (i := i) (by simpa using h) (by simpa using ha)
    | false => rw [List.takeWhile_cons, hp] at h; simp at h
theorem tw_at {α : Type} {p : α → Bool} : ∀ {l : List α} {a : α}, l[(l.takeWhile p).length]? = some a → p a = false
  | [], a, h => by simp at h
  | x :: r, a, h => by
    cases hp : p x with
    | true =>
      rw [List.takeWhile_cons, hp] at h
      exact tw_at (l := r) (by simpa using h)
    | false =>
      rw [List.takeWhile_cons, hp] at h
      have : x = a := by simpa using h
      rw [← this]; exact hp
theorem tw_ge {α : Type} {p : α → Bool} {l : List α} (hm : ∀ (i j : Nat) (a b : α), i ≤ j → l[i]? = some a → l[j]? = some b → p b = true → p a = true) {i : Nat} {a : α} (h : (l.takeWhile p).length ≤ i) (ha : l[i]? = some a) : p a = false := by
  cases hp : p a with
  | false => rfl
  | true =>
    obtain ⟨b, hb⟩ := get_of (l := l) (i := (l.takeWhile p).length) (by have := (List.getElem?_eq_some_iff.1 ha).1; omega)
    have := hm _ i b a h hb ha hp
    rw [tw_at hb] at this; cases this
theorem tw_le {α : Type} {p : α → Bool} : ∀ {l : List α}, (l.takeWhile p).length ≤ l.length
  | [] => by simp
  | x :: r => by
    rw [List.takeWhile_cons]
    split
    · have := tw_le (p := p) (l := r); simp; omega
    · simp
theorem betw_snoc {l : List EnM} {low high : List Vl} {i : Nat} {e : EnM} (he : l[i]? = some e) : betw (l.take (i + 1)) low high = if passE low high e = true then betw (l.take i) low high ++ [e.id] else betw (l.take i) low high := by
  unfold betw
  rw [take_snoc he, List.filter_append, List.map_append]
  cases h : passE low high e <;> simp [h]
theorem betw_none {l : List EnM} {low high : List Vl} (h : ∀ e ∈ l, passE low high e = false) : betw l low high = [] := by
  unfold betw
  rw [List.filter_eq_nil_iff.2 (fun e he => by rw [h e he]; decide)]; rfl
theorem betw_rest {l : List EnM} {low high : List Vl} {k : Nat} (h : ∀ i e, k ≤ i → l[i]? = some e → passE low high e = false) : betw l low high = betw (l.take k) low high := by
  conv => lhs; rw [← List.take_append_drop k l]
  have : betw (l.drop k) low high = [] := betw_none fun e he => by
    obtain ⟨i, hi⟩ := List.mem_iff_getElem?.1 he
    rw [List.getElem?_drop] at hi
    exact h _ e (by omega) hi
  unfold betw at this ⊢
  rw [List.filter_append, List.map_append, this, List.append_nil]
theorem betw_len {l : List EnM} {low high : List Vl} : (betw l low high).length ≤ l.length := by
  unfold betw
  rw [List.length_map]
  exact List.length_filter_le _ _
section
variable {H0 H : Hp} {A oA kA lA : Option Addr} {n c oc kn kc ln lc : Nat} {root cols : Int} {S : Sv} {Q : Value → Hp → Prop} {bl : List NdM} {low high : List Vl} {back : Bool}
theorem c23 (N : NullAt H) (hT : TrAt H A n bl) (hF : Fewish bl) (hL : SlAt vlC H lA ln low) (hS : SlAt vlC H kA kn high)
    (hq : ∀ A' c' H', Ext H H' → RowI H H' A' c' (betT (treeV bl root cols) cols low high back).1 → Q (.tuple #[.slice A' (betT (treeV bl root cols) cols low high back).1.length c', .int .i64 (betT (treeV bl root cols) cols low high back).2]) H') :
    HCalls Tryz.prog 23 [.agg #[.slice A n c, .int .i64 root, .int .i64 cols], .slice lA ln lc, .slice kA kn kc, .bool back] H Q := by
  refine f23.ok _ _ _ _ _ _ _ _ _ _ _ _ ?_
  unfold f23
  obtain rfl := hL.len
  obtain rfl := hS.len
  refine c36 N hT hF (fun h H2 hx => ⟨_, _, rfl, ?_⟩) fun S h hl hk g gs oA oc H2 W => ⟨_, _, rfl, ?_⟩
  · refine jn_intro (fun J => ∀ H', Ext H H' → J true H') (fun H12 x12 => cndT rfl ?_) fun J hJ => cndT rfl (hJ H2 hx)
    rw [h] at hq
    exact hq none 0 H12 x12 Row.nil
  rw [h] at hq
  have hob : S.out.length < huge := by unfold huge; omega
  obtain ⟨hs, hgd, _⟩ := tree_of h
  have hent := good_ent hgd
  have hW := W.ext
  have hd : betT (some S) cols low high back = if (keyG 0 cols low && keyG 0 cols high) = true then (turned back (betw S.out low high), 0) else ([], 2) := rfl
  rw [hd] at hq
  refine jn_intro (fun J => ((keyG 0 cols low && keyG 0 cols high) = false → ∀ H', Ext H H' → J true H') ∧ ((keyG 0 cols low && keyG 0 cols high) = true → ∀ H', Ext H2 H' → J false H')) ⟨fun hg H12 x12 => cndT rfl (by rw [hg] at hq; exact hq none 0 H12 x12 Row.nil), fun hg H12 x12 => cndF rfl ?_⟩ fun J hJ => cndF rfl ?_
  rotate_left
  · unfold keyG at hJ
    have z1 : decide ((0 : Int) ≤ ((low.length : Nat) : Int)) = true := decide_eq_true (by omega)
    have z2 : decide ((0 : Int) ≤ ((high.length : Nat) : Int)) = true := decide_eq_true (by omega)
    rw [z1, z2, Bool.true_and, Bool.true_and] at hJ
    refine cndI (fun h1 => ?_) fun h1 => cndI (fun h2 => ?_) fun h2 => c40 (N.ext hW) (hL.ext hW) ⟨_, rfl, cndI (fun h3 => ?_) fun h3 => c40 (N.ext hW) (hS.ext hW) ⟨_, rfl, ?_⟩⟩
    · have h1 := of_decide_eq_true h1
      exact hJ.1 (by rw [decide_eq_false (by omega)]; rfl) H2 hW
    · have h2 := of_decide_eq_true h2
      refine hJ.1 ?_ H2 hW
      rw [decide_eq_false (p := ((high.length : Nat) : Int) ≤ cols) (by omega)]; simp
    · rw [Bool.not_eq_true'] at h3
      refine hJ.1 ?_ H2 hW
      rw [h3]; simp
    · have h1 := of_decide_eq_false h1
      have h2 := of_decide_eq_false h2
      rw [Bool.not_eq_false'] at h3
      rw [decide_eq_true (p := ((low.length : Nat) : Int) ≤ cols) (by omega), decide_eq_true (p := ((high.length : Nat) : Int) ≤ cols) (by omega), h3] at hJ
      cases hv : validL high with
      | true => exact hJ.2 (by rw [hv]; rfl) H2 (Ext.refl _)
      | false => exact hJ.1 (by rw [hv]; rfl) H2 hW
  rw [if_pos hg] at hq
  have hlo : ((low.length : Nat) : Int) ≤ cols := by unfold keyG at hg; simp only [Bool.and_eq_true, decide_eq_true_eq] at hg; exact hg.1.2.1
  have hhi : ((high.length : Nat) : Int) ≤ cols := by unfold keyG at hg; simp only [Bool.and_eq_true, decide_eq_true_eq] at hg; exact hg.2.2.1
  have hlen : ∀ e ∈ S.out, ((e.key.length : Nat) : Int) = cols := fun e he => (ent_len (hent e he)).1
  have m1 : ∀ (i j : Nat) (a b : EnM), i ≤ j → S.out[i]? = some a → S.out[j]? = some b → (fun e => decide (cmpK e low < 0)) b = true → (fun e => decide (cmpK e low < 0)) a = true := fun i j a b hij ha hb hp => decide_eq_true ((cmpK_mono (good_le hgd hij ha hb)).1 (of_decide_eq_true hp))
  have m2 : ∀ (i j : Nat) (a b : EnM), i ≤ j → S.out[i]? = some a → S.out[j]? = some b → (fun e => decide (cmpK e high ≤ 0)) b = true → (fun e => decide (cmpK e high ≤ 0)) a = true := fun i j a b hij ha hb hp => decide_eq_true ((cmpK_mono (good_le hgd hij ha hb)).2 (of_decide_eq_true hp))
  have W12 := W.more x12
  refine ⟨_, _, _, W12.cl 5, c45 (p := fun e => decide (cmpK e low < 0)) (outAt W12 hob) (by unfold big; omega) (fnOk 46 rfl) m1 (fun e he H' Q' hx hq' => c46 (((hk e he).ext W12.ext).ext hx) ((hL.ext W12.ext).ext hx) (by have := hlen e he; omega) hq') fun b17 H17 x17 => ⟨_, _, rfl, ?_⟩⟩
  have W17 := W12.more x17
  refine ⟨_, _, _, W17.cl 5, c45 (p := fun e => decide (cmpK e high ≤ 0)) (outAt W17 hob) (by unfold big; omega) (fnOk 47 rfl) m2 (fun e he H' Q' hx hq' => c47 (((hk e he).ext W17.ext).ext hx) ((hS.ext W17.ext).ext hx) (by have := hlen e he; omega) hq') fun b23 H23 x23 => ⟨_, _, rfl, ?_⟩⟩
  have W23 := W17.more x23
  have hle1 := tw_le (p := fun e => decide (cmpK e low < 0)) (l := S.out)
  have hle2 := tw_le (p := fun e => decide (cmpK e high ≤ 0)) (l := S.out)
  obtain ⟨fr, hfr⟩ : ∃ fr, fr = (S.out.takeWhile fun e => decide (cmpK e low < 0)).length := ⟨_, rfl⟩
  obtain ⟨to, hto⟩ : ∃ to, to = (S.out.takeWhile fun e => decide (cmpK e high ≤ 0)).length := ⟨_, rfl⟩
  rw [← hfr] at hle1 ⊢
  rw [← hto] at hle2 ⊢
  refine loop_to S.out.length (fun j st H' => Ext H23 H' ∧ (j = 0 ∨ fr + j ≤ to) ∧ ∃ A' c' l', st = (((A', l'.length, c'), ((fr : Int) + (j : Int), ())), ()) ∧ RowI H23 H' A' c' l' ∧ l' = betw (S.out.take (fr + j)) low high) ⟨Ext.refl _, .inl rfl, none, 0, [], by simp, Row.nil, ?_⟩ ?_
  · refine (betw_none fun e he => ?_).symm
    obtain ⟨i, hi⟩ := List.mem_iff_getElem?.1 he
    have hlt := (List.getElem?_eq_some_iff.1 hi).1
    rw [List.length_take] at hlt
    rw [List.getElem?_take_of_lt (by omega)] at hi
    have hp : decide (cmpK e low < 0) = true := tw_lt (p := fun e => decide (cmpK e low < 0)) (by omega) hi
    unfold passE
    rw [hp]; rfl
  rintro j st H27 next hj ⟨x27, hjt, A', c', l', rfl, R, hl'⟩ hnext
  have W27 := W23.more x27
  dsimp only
  have hllen : l'.length ≤ S.out.length := by rw [hl']; have := betw_len (l := S.out.take (fr + j)) (low := low) (high := high); rw [List.length_take] at this; omega
  refine cndI (fun hlt => ?_) fun hlt => ?_
  · have hlt := of_decide_eq_true hlt
    have ei : ((fr : Int) + (j : Int)) = ((fr + j : Nat) : Int) := by omega
    obtain ⟨e, he⟩ := get_of (l := S.out) (i := fr + j) (by omega)
    rw [ei]
    refine ⟨_, _, _, W27.cl 5, by omega, by omega, rd_en (outAt W27 hob) he fun q o _ k1 k2 => ⟨_, k2, fun g33 hg33 => ?_⟩⟩
    refine Row.push1 (f := inC) (w := e.id) (fun _ => rfl) (fun x v hv => by simp [inC] at hv; subst hv; rfl) (by omega) R x27 (by unfold big; omega) hg33 fun A'' c'' H'' R'' x'' _ _ => ⟨rfl, hnext _ _ (by omega) ⟨x'', .inr (by omega), A'', c'', l' ++ [e.id], ?_, R'', ?_⟩⟩
    · rw [wrap_id (by omega) (by omega)]
      rw [show ((fr + j : Nat) : Int) + 1 = (fr : Int) + ((j + 1 : Nat) : Int) by omega]
    · have hp : passE low high e = true := by
        unfold passE
        have h1 : decide (cmpK e low < 0) = false := tw_ge (p := fun e => decide (cmpK e low < 0)) m1 (by omega) he
        have h2 : decide (cmpK e high ≤ 0) = true := tw_lt (p := fun e => decide (cmpK e high ≤ 0)) (by omega) he
        rw [h1, h2]; rfl
      rw [show fr + (j + 1) = fr + j + 1 by omega, betw_snoc he, if_pos hp, hl']
  · have hlt := of_decide_eq_false hlt
    have hfin : l' = betw S.out low high := by
      rw [hl']
      refine (betw_rest fun i e hi he => ?_).symm
      unfold passE
      have h2 : decide (cmpK e high ≤ 0) = false := tw_ge (p := fun e => decide (cmpK e high ≤ 0)) m2 (by omega) he
      rw [h2, Bool.and_false]
    rw [← hfin] at hq
    have x0 := W12.ext.trans (x17.trans x23)
    refine jn_intro (fun J => ∀ H', Ext H H' → RowI H H' A' c' (turned back l') → J H') (fun H39 x39 R39 => ?_) fun J hJ => cndI (fun hb => ?_) fun hb => ?_
    · have h1 := hq A' c' H39 x39 R39
      have h2 : (turned back l').length = l'.length := by unfold turned; split <;> simp
      simp only [h2] at h1
      exact h1
    · refine c48 R x27 (by unfold big; omega) fun H38 x38 R38 _ => ⟨rfl, hJ H38 (x0.trans x38) ?_⟩
      unfold turned
      rw [if_pos hb]
      exact Row.base R38 x0
    · refine hJ H27 (x0.trans x27) ?_
      unfold turned
      rw [if_neg (by rw [hb]; decide)]
      exact Row.base R x0
end
end Go.Proofs.YtmelbipidffmpaaGreatDoor.Hw

/- What functions of the program come to, by the evaluator: printed by a program of this session (gen.py) and checked here. -/
set_option linter.unusedVariables false
set_option maxRecDepth 100000
namespace Go.Proofs.YtmelbipidffmpaaGreatDoor.Hw
open Go Go.Proofs

/-- justiciar justiciarlaw17.TreeTells -/
def f3 (pt_0_A : Option Addr) (pt_0_n pt_0_c : Nat) (pt_1 : Int) (pt_2 : Int) (pkey_A : Option Addr) (pkey_n pkey_c : Nat) (H : Hp) (Q : Value → Hp → Prop) : Prop :=
  jn (fun (j4 : Bool) (H5 : Hp) => cnd j4 (HCalls Tryz.prog 10 [] H5 fun v7 H8 => ∃ x9 : Bool, v7 = .bool x9 ∧ Q (.bool x9) H8) (HCalls Tryz.prog 11 [.agg #[.slice pt_0_A pt_0_n pt_0_c, .int .i64 pt_1, .int .i64 pt_2]] H5
    fun v10 H11 => ∃ (A12 : Option Addr) (n12 c12 : Nat), ∃ x13 : Int, v10 = .tuple #[.slice A12 n12 c12, .int .i64 x13] ∧ HCalls Tryz.prog 12 [.agg #[.slice pt_0_A pt_0_n pt_0_c, .int .i64 pt_1, .int .i64 pt_2]] H11 fun
    v14 H15 => ∃ (A16 : Option Addr) (n16 c16 : Nat), ∃ x17 : Int, v14 = .tuple #[.slice A16 n16 c16, .int .i64 x17] ∧ jn (fun (j27 : Bool) (H28 : Hp) => cnd j27 (Q (.bool false) H28) (HCalls Tryz.prog 16 [.agg #[.slice
    pt_0_A pt_0_n pt_0_c, .int .i64 pt_1, .int .i64 pt_2]] H28 fun v30 H31 => ∃ x32 : Int, ∃ x33 : Int, v30 = .tuple #[.int .i64 x32, .int .i64 x33] ∧ HCalls Tryz.prog 17 [.agg #[.slice pt_0_A pt_0_n pt_0_c, .int .i64
    pt_1, .int .i64 pt_2]] H31 fun v34 H35 => ∃ x36 : Int, ∃ x37 : Int, v34 = .tuple #[.int .i64 x36, .int .i64 x37] ∧ jn (fun (j38 : Bool) => cnd j38 (Q (.bool false) H35) (HCalls Tryz.prog 18 [.agg #[.slice pt_0_A
    pt_0_n pt_0_c, .int .i64 pt_1, .int .i64 pt_2], .slice pkey_A pkey_n pkey_c] H35 fun v40 H41 => ∃ x42 : Int, ∃ x43 : Int, v40 = .tuple #[.int .i64 x42, .int .i64 x43] ∧ HCalls Tryz.prog 19 [.agg #[.slice pt_0_A pt_0_n
    pt_0_c, .int .i64 pt_1, .int .i64 pt_2], .slice pkey_A pkey_n pkey_c] H41 fun v44 H45 => ∃ x46 : Int, ∃ x47 : Int, v44 = .tuple #[.int .i64 x46, .int .i64 x47] ∧ jn (fun (j51 : Bool) (H52 : Hp) => Q (.bool j51) H52)
    fun J53 => cnd ((x42 : Int) == x46) (cnd ((x43 : Int) == x47) (HCalls Tryz.prog 10 [] H45 fun v48 H49 => ∃ x50 : Bool, v48 = .bool x50 ∧ J53 x50 H49) (J53 false H45)) (J53 false H45))) fun J39 => cnd ((x32 : Int) !=
    x36) (J39 true) (J39 ((x33 : Int) != x37)))) fun J29 => HCalls Tryz.prog 13 [.agg #[.slice pt_0_A pt_0_n pt_0_c, .int .i64 pt_1, .int .i64 pt_2]] H15 fun v18 H19 => ∃ x20 : Bool, v18 = .bool x20 ∧ HCalls Tryz.prog 14
    [.agg #[.slice pt_0_A pt_0_n pt_0_c, .int .i64 pt_1, .int .i64 pt_2]] H19 fun v21 H22 => ∃ x23 : Bool, v21 = .bool x23 ∧ cnd (!(x20 == x23)) (J29 true H22) (HCalls Tryz.prog 15 [.slice A12 n12 c12, .slice A16 n16 c16]
    H22 fun v24 H25 => ∃ x26 : Bool, v24 = .bool x26 ∧ cnd (!x26) (J29 true H25) (J29 ((x13 : Int) != x17) H25)))) fun J6 => HCalls Tryz.prog 9 [.agg #[.slice pt_0_A pt_0_n pt_0_c, .int .i64 pt_1, .int .i64 pt_2]] H fun
    v1 H2 => ∃ x3 : Bool, v1 = .bool x3 ∧ cnd (!x3) (J6 true H2) (J6 (decide ((((pkey_n : Nat) : Int) : Int) > 30)) H2)
noncomputable def fcx3 : Cx := cx 87 [(2, true)] [] [(5, (.look 0 (.look 2 (.act 1 (.act 3 (.look 4 (.look 5 (.look 6 (.look 7 (.act 8 (.look 9 (.look 10 (.look 11 (.look 12 (.look 13 (.look 14 (.look 15 .done))))))) .done))))) .done) .done))))] []
theorem f3.eq (pt_0_A : Option Addr) (pt_0_n pt_0_c : Nat) (pt_1 : Int) (pt_2 : Int) (pkey_A : Option Addr) (pkey_n pkey_c : Nat) (H : Hp) (Q : Value → Hp → Prop) : f3 pt_0_A pt_0_n pt_0_c pt_1 pt_2 pkey_A pkey_n pkey_c H Q = wFun fcx3 Tryz.f3 [.agg #[.slice pt_0_A pt_0_n pt_0_c, .int .i64 pt_1, .int .i64 pt_2], .slice pkey_A pkey_n pkey_c] H Q := by kernel_rfl
theorem f3.ok (pt_0_A : Option Addr) (pt_0_n pt_0_c : Nat) (pt_1 : Int) (pt_2 : Int) (pkey_A : Option Addr) (pkey_n pkey_c : Nat) {H : Hp} {Q : Value → Hp → Prop} (h : f3 pt_0_A pt_0_n pt_0_c pt_1 pt_2 pkey_A pkey_n pkey_c H Q) : HCalls Tryz.prog 3 [.agg #[.slice pt_0_A pt_0_n pt_0_c, .int .i64 pt_1, .int .i64 pt_2], .slice pkey_A pkey_n pkey_c] H Q := hcalls_of (cxOk _ _ _ _ _) Tryz.func3 (Eq.mp (f3.eq pt_0_A pt_0_n pt_0_c pt_1 pt_2 pkey_A pkey_n pkey_c H Q) h)

/-- justiciar justiciarlaw17.TreeFinds -/
def f4 (pt_0_A : Option Addr) (pt_0_n pt_0_c : Nat) (pt_1 : Int) (pt_2 : Int) (plow_A : Option Addr) (plow_n plow_c : Nat) (phigh_A : Option Addr) (phigh_n phigh_c : Nat) (H : Hp) (Q : Value → Hp → Prop) : Prop :=
  jn (fun (j4 : Bool) (H5 : Hp) => cnd j4 (HCalls Tryz.prog 10 [] H5 fun v7 H8 => ∃ x9 : Bool, v7 = .bool x9 ∧ Q (.bool x9) H8) (HCalls Tryz.prog 20 [.agg #[.slice pt_0_A pt_0_n pt_0_c, .int .i64 pt_1, .int .i64 pt_2],
    .slice plow_A plow_n plow_c] H5 fun v10 H11 => ∃ (A12 : Option Addr) (n12 c12 : Nat), ∃ x13 : Int, v10 = .tuple #[.slice A12 n12 c12, .int .i64 x13] ∧ HCalls Tryz.prog 21 [.agg #[.slice pt_0_A pt_0_n pt_0_c, .int .i64
    pt_1, .int .i64 pt_2], .slice plow_A plow_n plow_c] H11 fun v14 H15 => ∃ (A16 : Option Addr) (n16 c16 : Nat), ∃ x17 : Int, v14 = .tuple #[.slice A16 n16 c16, .int .i64 x17] ∧ jn (fun (j21 : Bool) (H22 : Hp) => cnd j21
    (Q (.bool false) H22) (newF H22 4 [.bool false, .bool true] fun g24 H25 => LoopF (σ := (Int × Unit) × Unit) ((0, ()), ()) H25 fun s26 H27 next28 => cnd (decide ((s26.1.1 : Int) < ((2 : Nat) : Int))) (0 ≤ (s26.1.1 :
    Int) ∧ (s26.1.1 : Int) < ((2 : Nat) : Int) ∧ ∃ x29 : Bool, cl H27 g24 (0 + (s26.1.1 : Int).toNat * 1) = some (.bool x29) ∧ HCalls Tryz.prog 23 [.agg #[.slice pt_0_A pt_0_n pt_0_c, .int .i64 pt_1, .int .i64 pt_2],
    .slice plow_A plow_n plow_c, .slice phigh_A phigh_n phigh_c, .bool x29] H27 fun v30 H31 => ∃ (A32 : Option Addr) (n32 c32 : Nat), ∃ x33 : Int, v30 = .tuple #[.slice A32 n32 c32, .int .i64 x33] ∧ HCalls Tryz.prog 24
    [.agg #[.slice pt_0_A pt_0_n pt_0_c, .int .i64 pt_1, .int .i64 pt_2], .slice plow_A plow_n plow_c, .slice phigh_A phigh_n phigh_c, .bool x29] H31 fun v34 H35 => ∃ (A36 : Option Addr) (n36 c36 : Nat), ∃ x37 : Int, v34
    = .tuple #[.slice A36 n36 c36, .int .i64 x37] ∧ jn (fun (j41 : Bool) (H42 : Hp) => cnd j41 (Q (.bool false) H42) (KeepX [some (.v (.slice plow_A plow_n plow_c)), some (.v (.slice phigh_A phigh_n phigh_c)), some (.loc
    3 0), some (.v (.slice (some ⟨g24, 0, none⟩) 2 2)), some (.v (.int .i64 ((2 : Nat) : Int)))] [some (true, [.slice pt_0_A pt_0_n pt_0_c, .int .i64 pt_1, .int .i64 pt_2])] ∧ next28 ((IntKind.i64.wrap (s26.1.1 + 1), ()),
    ()) H42)) fun J43 => HCalls Tryz.prog 22 [.slice A32 n32 c32, .slice A36 n36 c36] H35 fun v38 H39 => ∃ x40 : Bool, v38 = .bool x40 ∧ cnd (!x40) (J43 true H39) (J43 ((x33 : Int) != x37) H39)) (HCalls Tryz.prog 10 []
    H27 fun v44 H45 => ∃ x46 : Bool, v44 = .bool x46 ∧ Q (.bool x46) H45))) fun J23 => HCalls Tryz.prog 22 [.slice A12 n12 c12, .slice A16 n16 c16] H15 fun v18 H19 => ∃ x20 : Bool, v18 = .bool x20 ∧ cnd (!x20) (J23 true
    H19) (J23 ((x13 : Int) != x17) H19))) fun J6 => HCalls Tryz.prog 9 [.agg #[.slice pt_0_A pt_0_n pt_0_c, .int .i64 pt_1, .int .i64 pt_2]] H fun v1 H2 => ∃ x3 : Bool, v1 = .bool x3 ∧ cnd (!x3) (J6 true H2) (cnd (decide
    ((((plow_n : Nat) : Int) : Int) > 30)) (J6 true H2) (J6 (decide ((((phigh_n : Nat) : Int) : Int) > 30)) H2))
end Go.Proofs.YtmelbipidffmpaaGreatDoor.Hw

/- Trees: Between of the document; Find; the laws TreeTells and TreeFinds without awake. -/
set_option linter.unusedVariables false
set_option linter.unusedSimpArgs false
set_option linter.unusedSectionVars false
set_option maxRecDepth 20000
namespace Go.Proofs.YtmelbipidffmpaaGreatDoor.Hw
open Go Go.Proofs
section
variable {H0 H : Hp} {A oA kA lA : Option Addr} {n c oc kn kc ln lc : Nat} {root cols : Int} {S : Sv} {Q : Value → Hp → Prop} {bl : List NdM} {low high : List Vl} {back : Bool}
/-- What Find says. -/
def findT (t : Option Sv) (cols : Int) (key : List Vl) : List Int × Int := if key.length = 0 then ([], 2) else betT t cols key key false
theorem c20 {key : List Vl} (N : NullAt H) (hT : TrAt H A n bl) (hF : Fewish bl) (hS : SlAt vlC H kA kn key)
    (hq : ∀ A' c' H', Ext H H' → RowI H H' A' c' (findT (treeV bl root cols) cols key).1 → Q (.tuple #[.slice A' (findT (treeV bl root cols) cols key).1.length c', .int .i64 (findT (treeV bl root cols) cols key).2]) H') :
    HCalls Tryz.prog 20 [.agg #[.slice A n c, .int .i64 root, .int .i64 cols], .slice kA kn kc] H Q := by
  refine f20.ok _ _ _ _ _ _ _ _ ?_
  unfold f20
  have hkl := hS.len
  unfold findT at hq
  refine cndI (fun h => ?_) fun h => ?_
  · have : key.length = 0 := by have := beq_iff_eq.1 h; omega
    rw [if_pos this] at hq
    exact hq none 0 H (Ext.refl _) Row.nil
  · have : ¬ key.length = 0 := by
      intro e
      have : ((kn : Nat) : Int) ≠ 0 := by simpa using h
      omega
    rw [if_neg this] at hq
    exact c23 N hT hF hS hS fun A' c' H' x R => ⟨_, _, _, _, rfl, hq A' c' H' x R⟩
end
end Go.Proofs.YtmelbipidffmpaaGreatDoor.Hw

/- Trees: TreeTells, TreeFinds, TreeWays walked; awake is asked for. -/
set_option linter.unusedVariables false
set_option linter.unusedSimpArgs false
set_option linter.unusedSectionVars false
set_option maxRecDepth 20000
namespace Go.Proofs.YtmelbipidffmpaaGreatDoor.Hw
open Go Go.Proofs
def Awake : Prop := ∀ (H : Hp) (Q : Value → Hp → Prop), NullAt H → (∀ H', Ext H H' → Q (.bool true) H') → HCalls Tryz.prog 10 [] H Q
section
variable {H0 H : Hp} {A oA kA lA : Option Addr} {n c oc kn kc ln lc : Nat} {root cols : Int} {S : Sv} {Q : Value → Hp → Prop} {bl : List NdM} {key low high : List Vl} {back : Bool}
theorem c3 (aw : Awake) (N : NullAt H) (hT : TrAt H A n bl) (hF : Fewish bl) (hS : SlAt vlC H kA kn key) (tS : TxS key) (hq : ∀ H', Ext H H' → Q (.bool true) H') :
    HCalls Tryz.prog 3 [.agg #[.slice A n c, .int .i64 root, .int .i64 cols], .slice kA kn kc] H Q := by
  refine f3.ok _ _ _ _ _ _ _ _ ?_
  unfold f3
  refine jn_intro (fun J => ∀ b, J b H) (fun b => cndI (fun _ => aw H _ N fun H' hx => ⟨_, rfl, hq H' hx⟩) fun _ => ?_) fun J hJ => c9 hT fun b => ⟨_, rfl, cndI (fun _ => hJ _) fun _ => hJ _⟩
  refine c11 N hT hF fun A12 k12 l12 H11 x11 R12 hl12 he12 => ⟨_, _, _, _, rfl, ?_⟩
  refine c12 (hT.ext x11) hF fun A16 k16 l16 H15 x15 R16 hl16 he16 => ⟨_, _, _, _, rfl, ?_⟩
  have x15' := x11.trans x15
  refine jn_intro (fun J => ∀ H', Ext H H' → J false H') (fun H28 x28 => cndF rfl ?_) fun J hJ => ?_
  rotate_left
  · refine c13 (N.ext x15') (hT.ext x15') hF fun H19 x19 => ⟨_, rfl, c14 (hT.ext (x15'.trans x19)) hF fun H22 x22 => ⟨_, rfl, cndF (by simp) ?_⟩⟩
    have x22' := x15'.trans (x19.trans x22)
    refine c15 ((R12.at (by unfold huge; omega)).ext (x15.trans (x19.trans x22))) ((R16.at (by unfold huge; omega)).ext (x19.trans x22)) (by rw [he12, he16]) ⟨_, rfl, cndF rfl ?_⟩
    rw [show (((allT (treeV bl root cols)).2 : Int) != (allT (treeV bl root cols)).2) = false by simp]
    exact hJ H22 x22'
  refine c16 (N.ext x28) (hT.ext x28) hF fun H31 x31 => ⟨_, _, rfl, c17 (hT.ext (x28.trans x31)) hF fun H35 x35 => ⟨_, _, rfl, ?_⟩⟩
  have x35' := x28.trans (x31.trans x35)
  refine jn_intro (fun J => J false) (cndF rfl ?_) fun J hJ => cndF (by simp) (by
    rw [show (((depT (treeV bl root cols)).2 : Int) != (depT (treeV bl root cols)).2) = false by simp]; exact hJ)
  have fin : ∀ (a b : Int) H41, Ext H H41 → jn (fun (j51 : Bool) (H52 : Hp) => Q (.bool j51) H52) fun J53 => cnd ((a : Int) == a) (cnd ((b : Int) == b) (HCalls Tryz.prog 10 [] H41 fun v48 H49 => ∃ x50 : Bool, v48 = .bool x50 ∧ J53 x50 H49) (J53 false H41)) (J53 false H41) := fun a b H41 x41 =>
    jn_intro (fun J => ∀ H', Ext H H' → J true H') (fun H' hx => hq H' hx) fun J hJ => cndT (by simp) (cndT (by simp) (aw H41 _ (N.ext x41) fun H' hx => ⟨_, rfl, hJ H' (x41.trans hx)⟩))
  cases hv : treeV bl root cols with
  | none =>
    refine c18N (N.ext x35') (hT.ext x35') hF hv fun H41 x41 => ⟨_, _, rfl, c19N (hT.ext (x35'.trans x41)) hF hv fun H45 x45 => ⟨_, _, rfl, fin _ _ H45 (x35'.trans (x41.trans x45))⟩⟩
  | some S =>
    obtain ⟨_, _, h, t, a1, a2, a3, _, a5⟩ := tree_of hv
    refine c18 (N.ext x35') (hT.ext x35') hF (hS.ext x35') hv a1 a2 a3 a5 fun H41 x41 => ⟨_, _, rfl, c19 tS (hT.ext (x35'.trans x41)) hF (hS.ext (x35'.trans x41)) hv a1 a2 a3 a5 fun H45 x45 => ⟨_, _, rfl, fin _ _ H45 (x35'.trans (x41.trans x45))⟩⟩
theorem betw_all {cols : Int} {l : List EnM} : betw l [] [] = l.map EnM.id := by
  unfold betw
  rw [List.filter_eq_self.2]
  intro e _
  unfold passE cmpK
  simp [ordL]
end
end Go.Proofs.YtmelbipidffmpaaGreatDoor.Hw

/- From a function's contract to its row: what came in reads as it did. -/
set_option linter.unusedVariables false
set_option linter.unusedSimpArgs false
namespace Go.Proofs.YtmelbipidffmpaaGreatDoor.Hw
open Go
section
variable {H : Type} {enc : TypeId × Value → H} {P : Program} {w w' : World} {base : Nat} {sp : Nat → Bool}
theorem mapM_len {α β : Type} {f : α → Option β} : ∀ {l : List α} {r : List β}, l.mapM f = some r → r.length = l.length
  | [], r, h => by simp at h; subst h; rfl
  | x :: l, r, h => by
    rw [List.mapM_cons] at h
    simp only [bind, Option.bind_eq_some_iff, pure, Option.some.injEq] at h
    obtain ⟨y, _, r', h2, rfl⟩ := h
    simp [mapM_len h2]
/-- A type's parts lie in the table, and a slice's elements take a cell. -/
def partsB (P : Program) (d : Option TypeDesc) : Bool := match d with
  | some (.slice e) => decide (0 < P.cellsOf e) && decide (e < P.types.size)
  | some (.pointer e) => decide (e < P.types.size)
  | some (.struct fs) => fs.toList.all fun f => decide (f.type < P.types.size)
  | some (.array _ e) => decide (e < P.types.size)
  | some (.map _ e) => decide (e < P.types.size)
  | _ => true
/-- So for all types of the table. -/
def cellsB (P : Program) : Bool := (List.range P.types.size).all fun t => partsB P (P.underlying t)
theorem cellsB_ok (h : cellsB P = true) {t : TypeId} (ht : t < P.types.size) : partsB P (P.underlying t) = true := List.all_eq_true.1 h t (List.mem_range.2 ht)
/-- The reading of all cells of a slice is one that is told where to look for more. -/
theorem trodStep_spare {r r' : TypeId → List Value → Option (DataW H × List MemPlace)} {t : TypeId} (hz : partsB P (P.underlying t) = true)
    (hr : ∀ t cs x, t < P.types.size → r t cs = some x → (∀ p ∈ x.2, sp p.block = true) → r' t cs = some x) {cs : List Value} {x : DataW H × List MemPlace}
    (h : DataW.trodStep enc P w base (fun _ => true) true r t cs = some x) (hs : ∀ p ∈ x.2, sp p.block = true) : DataW.trodStep enc P w base sp true r' t cs = some x := by
  unfold DataW.trodStep at h ⊢
  split at h
  case h_6 e a hu =>
    rw [hu] at hz
    have he : e < P.types.size := of_decide_eq_true hz
    simp only [Option.map_eq_some_iff, Option.bind_eq_some_iff] at h ⊢
    obtain ⟨y, ⟨cs', hc, hy⟩, rfl⟩ := h
    exact ⟨y, ⟨cs', hc, hr _ _ _ he hy (fun p hp => hs p (by simp [hp]))⟩, rfl⟩
  case h_8 e a len cap hu =>
    rw [hu] at hz
    simp only [partsB, Bool.and_eq_true, decide_eq_true_eq] at hz
    obtain ⟨hz0, he⟩ := hz
    simp only at h ⊢
    split at h
    · rename_i hc
      rw [if_pos hc]
      simp only [if_true, Option.map_eq_some_iff, Option.bind_eq_some_iff] at h ⊢
      obtain ⟨elems, h1, rest, h2, rfl⟩ := h
      have g : ∀ i y, ((w.cells? base (a.add (i * P.cellsOf e)) (P.cellsOf e)).bind (r e)) = some y → (y ∈ elems ∨ y ∈ rest) → ((w.cells? base (a.add (i * P.cellsOf e)) (P.cellsOf e)).bind (r' e)) = some y := fun i y hy hm => by
        simp only [Option.bind_eq_some_iff] at hy ⊢
        obtain ⟨cs', hc', hy⟩ := hy
        exact ⟨cs', hc', hr _ _ _ he hy (fun p hp => hs p (by
          simp only [List.mem_append, List.mem_flatMap]
          exact .inr ⟨y, hm, hp⟩))⟩
      refine ⟨elems, mapM_carry h1 (fun i y _ hm hy => g i y hy (.inl hm)), rest, ?_, rfl⟩
      have hl2 : rest.length = cap - len := by
        have := mapM_len h2
        simpa using this
      by_cases hspa : sp a.block = true
      · rw [if_pos hspa]
        exact mapM_carry h2 (fun j y _ hm hy => g (len + j) y hy (.inr hm))
      · rw [if_neg hspa]
        have h0 : (elems.length + rest.length) * P.cellsOf e = 0 := by
          refine Classical.byContradiction fun hne => hspa ?_
          have := hs (.cell a.block (a.off + 0)) (by
            simp only [List.mem_append]
            exact .inl (MemPlace.mem_row.2 ⟨0, by omega, rfl⟩))
          exact this
        have : rest.length = 0 := by
          rcases Nat.mul_eq_zero.1 h0 with h3 | h3 <;> omega
        rw [List.length_eq_zero_iff.1 this]
    · cases h
  all_goals first | exact h | skip
  case h_9 fs hu =>
    rw [hu] at hz
    simp only [partsB, List.all_eq_true, decide_eq_true_eq] at hz
    split at h
    · rename_i hc
      rw [if_pos hc]
      simp only [Option.map_eq_some_iff] at h ⊢
      obtain ⟨xs, h1, rfl⟩ := h
      exact ⟨xs, mapM_carry h1 (fun f y hf hm hy => hr _ _ _ (hz f hf) hy (fun p hp => hs p (by
        simp only [List.mem_flatMap]
        exact ⟨y, hm, hp⟩))), rfl⟩
    · cases h
  case h_10 n e hu =>
    rw [hu] at hz
    have he : e < P.types.size := of_decide_eq_true hz
    split at h
    · rename_i hc
      rw [if_pos hc]
      simp only [Option.map_eq_some_iff] at h ⊢
      obtain ⟨xs, h1, rfl⟩ := h
      exact ⟨xs, mapM_carry h1 (fun f y _ hm hy => hr _ _ _ he hy (fun p hp => hs p (by
        simp only [List.mem_flatMap]
        exact ⟨y, hm, hp⟩))), rfl⟩
    · cases h
  case h_14 k e b hu =>
    rw [hu] at hz
    have he : e < P.types.size := of_decide_eq_true hz
    split at h
    · rename_i es clock hm
      simp only
      split at h
      · rename_i hc
        rw [if_pos hc]
        simp only [Option.bind_eq_some_iff] at h ⊢
        obtain ⟨entries, h1, h2⟩ := h
        split at h2
        · rename_i hri
          cases h2
          refine ⟨entries, mapM_carry h1 (fun y z _ hmem hy => ?_), by rw [if_pos hri]⟩
          simp only [Option.bind_eq_some_iff] at hy ⊢
          obtain ⟨key, hk, hy⟩ := hy
          refine ⟨key, hk, ?_⟩
          split at hy
          · rename_i hf
            rw [if_pos hf]
            simp only [Option.map_eq_some_iff] at hy ⊢
            obtain ⟨u, hu2, rfl⟩ := hy
            exact ⟨u, hr _ _ _ he hu2 (fun p hp => hs p (by
              simp only [List.mem_cons, List.mem_flatMap]
              exact .inr ⟨_, hmem, hp⟩)), rfl⟩
          · cases hy
        · cases h2
      · cases h
    · cases h
theorem trod_spare (hz : cellsB P = true) : ∀ (n : Nat) (t : TypeId) (cs : List Value) (x : DataW H × List MemPlace), t < P.types.size →
    DataW.trod enc P w base (fun _ => true) true n t cs = some x → (∀ p ∈ x.2, sp p.block = true) → DataW.trod enc P w base sp true n t cs = some x := by
  intro n
  induction n with
  | zero => intro t cs x _ h; simp [DataW.trod] at h
  | succ n ih =>
    intro t cs x ht h hs
    rw [DataW.trod_step] at h ⊢
    exact trodStep_spare (cellsB_ok hz ht) ih h hs
/-- What came in reads as it did, in a world in which all that was there stays. -/
theorem trodAll_again (hz : cellsB P = true) (hh : ∀ (b : Nat) o, w.heap[b]? = some o → w'.heap[b]? = some o) : ∀ {ts : List TypeId} {vs : List Value} {ds : List (DataW H)} {ps : List MemPlace}, (∀ t ∈ ts, t < P.types.size) →
    DataW.TrodAll enc P w base (fun _ => true) true ts vs ds ps → (∀ p ∈ ps, p.block < w.heap.size) → (∀ p ∈ ps, sp p.block = true) → DataW.TrodAll enc P w' base sp true ts vs ds ps
  | [], vs, ds, ps, _, h, _, _ => by
    obtain ⟨rfl, rfl, rfl⟩ := ChangeShapes.trodAll_nil h
    rfl
  | t :: ts, vs, ds, ps, hts, h, hl, hs => by
    obtain ⟨v, vs', d, ds', a, b, rfl, rfl, rfl, ⟨n, h1⟩, h2⟩ := ChangeShapes.trodAll_cons h
    have hold : ∀ p : MemPlace, p.block < w.heap.size → w'.heap[p.block]? = w.heap[p.block]? := fun p hp => by
      rw [Array.getElem?_eq_getElem hp]
      exact hh _ _ (Array.getElem?_eq_getElem hp)
    have same : ∀ p ∈ a, w.sameAt w' p := fun p hp => by
      have := hold p (hl p (List.mem_append_left _ hp))
      cases p with
      | cell b off => unfold World.sameAt World.cell?; simp only [MemPlace.block] at this; simp only [this]
      | map b => exact this
    exact ⟨a, b, ⟨n, DataW.trod_carry n t _ _ (trod_spare hz n t _ _ (hts t List.mem_cons_self) h1 (fun p hp => hs p (List.mem_append_left _ hp))) same⟩, trodAll_again hz hh (fun t ht => hts t (List.mem_cons_of_mem _ ht)) h2 (fun p hp => hl p (List.mem_append_right _ hp)) (fun p hp => hs p (List.mem_append_right _ hp)), rfl⟩
/-- The row's word for a function that only looks, and makes new memory. -/
theorem post_look {f : Func} {s : ChangeSpec} {apart fresh handsOn again : Bool} {W W' : World} {args : Array Value} {v : Value} {ds gs : List (DataW H)} {before : List MemPlace}
    (hz : cellsB P = true) (hps : ∀ t ∈ f.params.toList, t < P.types.size) (hW : DataW.Whole enc P f.params.toList s.vars apart W args.toList ds gs before) (hsv : s.vars = []) (hargs : (s.fn H (ds ++ gs)).args = ds) (hv2 : (s.fn H (ds ++ gs)).vars = [])
    (hres : ∀ (b : Nat) (sp : Nat → Bool) (hd : Bool), DataW.TrodAll enc P W' b sp hd f.resultTypes.toList (v.resultList f.resultTypes.size) (s.fn H (ds ++ gs)).results [])
    (hh : ∀ (b : Nat) o, W.heap[b]? = some o → W'.heap[b]? = some o) (hos : W'.os = W.os) (hout : W'.output = W.output)
    (hok : ∀ (j : Nat) (t : TypeId) (r : Value), f.resultTypes[j]? = some t → (v.resultList f.resultTypes.size)[j]? = some r → Value.okWide P W' .any 0 t r) :
    s.post enc P f apart fresh handsOn again W args v W' := by
  have hlt : ∀ p ∈ before, p.block < W.heap.size := fun p hp => hW.lt p hp
  have hold : ∀ p ∈ before, (fun b => decide (b < W.heap.size)) p.block = true := fun p hp => by simpa using hlt p hp
  have hW' := hW
  obtain ⟨pa, pv, hA, hV, hpe, hnf, hnd⟩ := hW'
  rw [hsv] at hV
  obtain ⟨hgs, hpv⟩ := ChangeShapes.trodVars_none hV
  subst hpv
  rw [List.append_nil] at hpe
  subst hpe
  have ag : ∀ sp : Nat → Bool, (∀ p ∈ before, sp p.block = true) → DataW.TrodAll enc P W' 0 sp true f.params.toList args.toList (s.fn H (ds ++ gs)).args before := fun sp hsp => by
    rw [hargs]
    exact trodAll_again hz hh hps hA hlt hsp
  have av : ∀ sp : Nat → Bool, DataW.TrodVars enc P W' sp s.vars (s.fn H (ds ++ gs)).vars [] := fun sp => by
    rw [hsv, hv2]
    exact rfl
  have same : ∀ b, b < W.heap.size → W'.heap[b]? = W.heap[b]? := fun b hb => by
    rw [Array.getElem?_eq_getElem hb]; exact hh _ _ (Array.getElem?_eq_getElem hb)
  refine ⟨ds, gs, before, [], before, [], hW, hres _ _ _, ag _ hold, av _, ⟨hos, hout, fun i hi => ?_⟩, fun _ => ?_⟩
  · rw [same i hi]
    cases hx : W.heap[i]? with
    | none => rfl
    | some o =>
      cases o with
      | cells c t fr => exact ⟨rfl, rfl, rfl, fun _ _ => rfl⟩
      | map es clock => exact .inr ⟨rfl, rfl⟩
      | _ => rfl
  · refine ⟨hok, _, _, ([] ++ before) ++ [], ⟨[] ++ before, [], ChangeShapes.trodAll_append (ag _ (fun _ _ => rfl)) (hres _ _ _), av _, rfl, ?_, ?_⟩, ?_⟩
    · intro b off hp
      have hp' : MemPlace.cell b off ∈ before := by simpa using hp
      have h1 := hnf b off hp'
      unfold World.frozen? at h1 ⊢
      rw [same b (hlt _ hp')]
      exact h1
    · intro ha
      have := hnd ha
      simpa using this
    · intro p hp _
      simpa using hp
/-- The whole heap of a world. -/
def hpOf (w : World) : Hp := fun b => w.heap[b]?
theorem cl_hp {b o : Nat} {v : Value} (h : w.cell? ⟨b, o, none⟩ = some v) : cl (hpOf w) b o = some v := by
  unfold World.cell? at h
  unfold cl hpOf
  split at h
  · rename_i c _ _ hb
    simp only at hb
    rw [hb]
    simpa using h
  · cases h
/-- A datum of which no part is too large. -/
def Sz (P : Program) (t : TypeId) (d : DataW H) : Prop := ∀ n ∈ d.weights P t, n ≤ reachBytes
theorem mem_all {e : TypeId} {d : DataW H} {n : Nat} : ∀ {l : List (DataW H)}, d ∈ l → n ∈ d.weights P e → n ∈ DataW.weightsAll P e l
  | x :: r, h, hn => by
    simp only [DataW.weightsAll, List.mem_append]
    rcases List.mem_cons.1 h with h | h
    · subst h; exact .inl hn
    · exact .inr (mem_all h hn)
theorem Sz.two {t : TypeId} {f0 f1 : Field} {d0 d1 : DataW H} (ht : P.underlying t = some (.struct #[f0, f1])) (h : Sz P t (.agg [d0, d1])) : Sz P f0.type d0 ∧ Sz P f1.type d1 := by
  unfold Sz at h
  simp only [DataW.weights, ht, DataW.weightsEach, List.map_cons, List.map_nil, List.append_nil, List.mem_append] at h
  exact ⟨fun n hn => h n (.inl hn), fun n hn => h n (.inr hn)⟩
theorem Sz.three {t : TypeId} {f0 f1 f2 : Field} {d0 d1 d2 : DataW H} (ht : P.underlying t = some (.struct #[f0, f1, f2])) (h : Sz P t (.agg [d0, d1, d2])) : Sz P f0.type d0 ∧ Sz P f1.type d1 ∧ Sz P f2.type d2 := by
  unfold Sz at h
  simp only [DataW.weights, ht, DataW.weightsEach, List.map_cons, List.map_nil, List.append_nil, List.mem_append] at h
  exact ⟨fun n hn => h n (.inl hn), fun n hn => h n (.inr (.inl hn)), fun n hn => h n (.inr (.inr hn))⟩
/-- A slice that came in: its cells, element by element. -/
theorem open_cells {spare : Nat → Bool} {held : Bool} {t e : TypeId} {fuel : Nat} {cs : List Value} {x : DataW H × List MemPlace} (ht : P.underlying t = some (.slice e)) (hC : 0 < P.cellsOf e) (hB : 0 < P.bytesOf e) (hsz : Sz P t x.1) (h : DataW.trod enc P w base spare held fuel t cs = some x) :
    ∃ (A : Option Addr) (n c : Nat) (f : Nat → List Value), cs = [.slice A n c] ∧ n ≤ reachBytes ∧ cellsAt (hpOf w) A ((List.range n).flatMap f) ∧ ∀ i, i < n → (f i).length = P.cellsOf e ∧ ∃ m y, Sz P e y.1 ∧ DataW.trod enc P w base spare held m e (f i) = some y := by
  rcases Go.Deep.open_slice ht h with ⟨rfl, _⟩ | ⟨a, len, cap, m, n, D, Pl, rfl, hb, hl, hm, hmm, hx, hi⟩
  · exact ⟨none, 0, 0, fun _ => [], rfl, by omega, .inl rfl, fun i hi => by omega⟩
  have hlm : len ≤ m := by rw [hmm]; split <;> omega
  have hsz' : (∀ k, k = (len + (m - len)) * P.bytesOf e → k ≤ reachBytes) ∧ ∀ i, i < len → Sz P e (D i) := by
    rw [hx] at hsz
    unfold Sz at hsz
    simp only [DataW.weights, ht, List.length_map, List.length_range, List.mem_cons, List.mem_append] at hsz
    exact ⟨fun k hk => hsz k (.inl hk), fun i hi k hk => hsz k (.inr (.inl (mem_all (List.mem_map_of_mem (f := D) (List.mem_range.2 hi)) hk)))⟩
  have hlr : len ≤ reachBytes := by
    have h1 := hsz'.1 _ rfl
    have h2 : len * 1 ≤ (len + (m - len)) * P.bytesOf e := Nat.mul_le_mul (by omega) hB
    omega
  refine ⟨some a, len, cap, fun i => (w.cells? base (a.add (i * P.cellsOf e)) (P.cellsOf e)).getD [], rfl, hlr, ?_, fun i him => ?_⟩
  rotate_left
  · obtain ⟨cs', hc, ht'⟩ := hi i (by omega)
    refine ⟨?_, n, _, hsz'.2 i him, by simp only [hc, Option.getD_some]; exact ht'⟩
    simp only [hc, Option.getD_some]
    exact (World.cells?_some hc).2.1
  by_cases h0 : len = 0
  · subst h0; exact .inl rfl
  · obtain ⟨cs0, hc0, _⟩ := hi 0 (by omega)
    have hs0 := (World.cells?_some hc0).2.2 0 hC
    have hsp : a.spot = none := by
      obtain ⟨_, hl0, hat⟩ := World.cells?_some hc0
      have h1 := hat 0 hC
      rw [Nat.zero_mul] at h1
      have h2 : (a.add 0).add 0 = a := rfl
      rw [h2, List.getElem?_eq_getElem (by omega)] at h1
      unfold World.cell? at h1
      split at h1
      · split at h1
        · cases h1
        · rename_i hn
          cases hsp : a.spot with
          | none => rfl
          | some q => rw [hsp] at hn; simp at hn
      · cases h1
    obtain ⟨b, o, q⟩ := a
    simp only at hsp
    subst hsp
    have hadd : ∀ o k, (⟨b, o, none⟩ : Addr).add k = ⟨b, o + k, none⟩ := fun o k => by
      unfold Addr.add
      by_cases hk : k = 0
      · subst hk; rfl
      · simp [hk]
    refine .inr ⟨b, o, rfl, fun j v hj => ?_⟩
    have hlen : ∀ i ∈ List.range len, ((w.cells? base ((⟨b, o, none⟩ : Addr).add (i * P.cellsOf e)) (P.cellsOf e)).getD []).length = P.cellsOf e := fun i him => by
      obtain ⟨cs', hc, _⟩ := hi i (by have := List.mem_range.1 him; omega)
      simp only [hc, Option.getD_some]
      exact (World.cells?_some hc).2.1
    have hjl : j < len * P.cellsOf e := by
      have := (List.getElem?_eq_some_iff.1 hj).1
      rw [flat_length hlen, List.length_range] at this
      exact this
    have hdm : j = j / P.cellsOf e * P.cellsOf e + j % P.cellsOf e := by
      have := Nat.div_add_mod j (P.cellsOf e)
      rw [Nat.mul_comm] at this
      exact this.symm
    have hil : j / P.cellsOf e < len := Nat.div_lt_of_lt_mul (by rw [Nat.mul_comm]; exact hjl)
    have hql : j % P.cellsOf e < P.cellsOf e := Nat.mod_lt _ hC
    rw [hdm, flat_get hlen (x := j / P.cellsOf e) (by simp [hil]) hql] at hj
    obtain ⟨cs', hc, _⟩ := hi (j / P.cellsOf e) (by omega)
    simp only [hc, Option.getD_some] at hj
    have h3 := (World.cells?_some hc).2.2 _ hql
    rw [hj, hadd, hadd] at h3
    have h4 := cl_hp h3
    rw [Nat.add_assoc, ← hdm] at h4
    exact h4
/-- A struct of two or three one-cell fields: the fields' own readings. -/
theorem open_two {spare : Nat → Bool} {held : Bool} {t : TypeId} {f0 f1 : Field} {fuel : Nat} {cs : List Value} {x : DataW H × List MemPlace} (ht : P.underlying t = some (.struct #[f0, f1])) (hc : P.cellsOf t = 2)
    (h0 : f0.offset = 0 ∧ P.cellsOf f0.type = 1) (h1 : f1.offset = 1 ∧ P.cellsOf f1.type = 1) (hsz : Sz P t x.1) (h : DataW.trod enc P w base spare held fuel t cs = some x) :
    ∃ v0 v1 n y0 y1, cs = [v0, v1] ∧ (Sz P f0.type y0.1 ∧ Sz P f1.type y1.1) ∧ DataW.trod enc P w base spare held n f0.type [v0] = some y0 ∧ DataW.trod enc P w base spare held n f1.type [v1] = some y1 := by
  obtain ⟨xs, n, _, rfl, hl, hx, hf⟩ := DataW.trod_struct ht h
  rw [hc] at hl
  match cs, hl with
  | [v0, v1], _ =>
    have e0 := hf 0 f0 rfl
    have e1 := hf 1 f1 rfl
    rw [h0.1, h0.2] at e0
    rw [h1.1, h1.2] at e1
    match xs, hx with
    | [y0, y1], _ => exact ⟨v0, v1, n, y0, y1, rfl, Sz.two ht hsz, e0, e1⟩
theorem open_three {spare : Nat → Bool} {held : Bool} {t : TypeId} {f0 f1 f2 : Field} {fuel : Nat} {cs : List Value} {x : DataW H × List MemPlace} (ht : P.underlying t = some (.struct #[f0, f1, f2])) (hc : P.cellsOf t = 3)
    (h0 : f0.offset = 0 ∧ P.cellsOf f0.type = 1) (h1 : f1.offset = 1 ∧ P.cellsOf f1.type = 1) (h2 : f2.offset = 2 ∧ P.cellsOf f2.type = 1) (hsz : Sz P t x.1) (h : DataW.trod enc P w base spare held fuel t cs = some x) :
    ∃ v0 v1 v2 n y0 y1 y2, cs = [v0, v1, v2] ∧ (Sz P f0.type y0.1 ∧ Sz P f1.type y1.1 ∧ Sz P f2.type y2.1) ∧ DataW.trod enc P w base spare held n f0.type [v0] = some y0 ∧ DataW.trod enc P w base spare held n f1.type [v1] = some y1 ∧ DataW.trod enc P w base spare held n f2.type [v2] = some y2 := by
  obtain ⟨xs, n, _, rfl, hl, hx, hf⟩ := DataW.trod_struct ht h
  rw [hc] at hl
  match cs, hl with
  | [v0, v1, v2], _ =>
    have e0 := hf 0 f0 rfl
    have e1 := hf 1 f1 rfl
    have e2 := hf 2 f2 rfl
    rw [h0.1, h0.2] at e0
    rw [h1.1, h1.2] at e1
    rw [h2.1, h2.2] at e2
    match xs, hx with
    | [y0, y1, y2], _ => exact ⟨v0, v1, v2, n, y0, y1, y2, rfl, Sz.three ht hsz, e0, e1, e2⟩
def chk2 (P : Program) (t a b : Nat) : Bool := Nat.beq (P.cellsOf t) 2 && (match P.underlying t with
  | some (.struct fs) => (match fs.toList with
    | [f0, f1] => Nat.beq f0.type a && Nat.beq f0.offset 0 && Nat.beq (P.cellsOf a) 1 && Nat.beq f1.type b && Nat.beq f1.offset 1 && Nat.beq (P.cellsOf b) 1
    | _ => false)
  | _ => false)
def chk3 (P : Program) (t a b c : Nat) : Bool := Nat.beq (P.cellsOf t) 3 && (match P.underlying t with
  | some (.struct fs) => (match fs.toList with
    | [f0, f1, f2] => Nat.beq f0.type a && Nat.beq f0.offset 0 && Nat.beq (P.cellsOf a) 1 && Nat.beq f1.type b && Nat.beq f1.offset 1 && Nat.beq (P.cellsOf b) 1 && Nat.beq f2.type c && Nat.beq f2.offset 2 && Nat.beq (P.cellsOf c) 1
    | _ => false)
  | _ => false)
theorem opn2 {spare : Nat → Bool} {held : Bool} {t a b : Nat} {fuel : Nat} {cs : List Value} {x : DataW H × List MemPlace} (hc : chk2 P t a b = true) (hsz : Sz P t x.1) (h : DataW.trod enc P w base spare held fuel t cs = some x) :
    ∃ v0 v1 n y0 y1, cs = [v0, v1] ∧ (Sz P a y0.1 ∧ Sz P b y1.1) ∧ DataW.trod enc P w base spare held n a [v0] = some y0 ∧ DataW.trod enc P w base spare held n b [v1] = some y1 := by
  unfold chk2 at hc
  rw [Bool.and_eq_true] at hc
  obtain ⟨hc0, hc⟩ := hc
  split at hc
  · rename_i fs hu
    split at hc
    · rename_i f0 f1 hfs
      have : fs = #[f0, f1] := Array.ext' hfs
      subst this
      simp only [Bool.and_eq_true] at hc
      obtain ⟨⟨⟨⟨⟨h1, h2⟩, h3⟩, h4⟩, h5⟩, h6⟩ := hc
      cases Nat.eq_of_beq_eq_true h1
      cases Nat.eq_of_beq_eq_true h4
      exact open_two hu (Nat.eq_of_beq_eq_true hc0) ⟨Nat.eq_of_beq_eq_true h2, Nat.eq_of_beq_eq_true h3⟩ ⟨Nat.eq_of_beq_eq_true h5, Nat.eq_of_beq_eq_true h6⟩ hsz h
    · cases hc
  · cases hc
theorem opn3 {spare : Nat → Bool} {held : Bool} {t a b c : Nat} {fuel : Nat} {cs : List Value} {x : DataW H × List MemPlace} (hc : chk3 P t a b c = true) (hsz : Sz P t x.1) (h : DataW.trod enc P w base spare held fuel t cs = some x) :
    ∃ v0 v1 v2 n y0 y1 y2, cs = [v0, v1, v2] ∧ (Sz P a y0.1 ∧ Sz P b y1.1 ∧ Sz P c y2.1) ∧ DataW.trod enc P w base spare held n a [v0] = some y0 ∧ DataW.trod enc P w base spare held n b [v1] = some y1 ∧ DataW.trod enc P w base spare held n c [v2] = some y2 := by
  unfold chk3 at hc
  rw [Bool.and_eq_true] at hc
  obtain ⟨hc0, hc⟩ := hc
  split at hc
  · rename_i fs hu
    split at hc
    · rename_i f0 f1 f2 hfs
      have : fs = #[f0, f1, f2] := Array.ext' hfs
      subst this
      simp only [Bool.and_eq_true] at hc
      obtain ⟨⟨⟨⟨⟨⟨⟨⟨h1, h2⟩, h3⟩, h4⟩, h5⟩, h6⟩, h7⟩, h8⟩, h9⟩ := hc
      cases Nat.eq_of_beq_eq_true h1
      cases Nat.eq_of_beq_eq_true h4
      cases Nat.eq_of_beq_eq_true h7
      exact open_three hu (Nat.eq_of_beq_eq_true hc0) ⟨Nat.eq_of_beq_eq_true h2, Nat.eq_of_beq_eq_true h3⟩ ⟨Nat.eq_of_beq_eq_true h5, Nat.eq_of_beq_eq_true h6⟩ ⟨Nat.eq_of_beq_eq_true h8, Nat.eq_of_beq_eq_true h9⟩ hsz h
    · cases hc
  · cases hc
end
end Go.Proofs.YtmelbipidffmpaaGreatDoor.Hw

/- Trees: what comes in, opened. -/
set_option linter.unusedVariables false
set_option linter.unusedSimpArgs false
set_option maxRecDepth 100000
namespace Go.Proofs.YtmelbipidffmpaaGreatDoor.Hw
open Go Go.Proofs
theorem u28 : Tryz.prog.underlying 28 = some (.slice 46) := by kernel_rfl
theorem u37 : Tryz.prog.underlying 37 = some (.slice 3) := by kernel_rfl
theorem u44 : Tryz.prog.underlying 44 = some (.slice 64) := by kernel_rfl
theorem u62 : Tryz.prog.underlying 62 = some (.int .i64) := by kernel_rfl
theorem u9 : Tryz.prog.underlying 9 = some .string := by kernel_rfl
theorem u4 : Tryz.prog.underlying 4 = some .bool := by kernel_rfl
theorem u3 : Tryz.prog.underlying 3 = some (.int .i64) := by kernel_rfl
theorem k46 : chk2 Tryz.prog 46 44 3 = true := by kernel_rfl
theorem k64 : chk3 Tryz.prog 64 62 3 9 = true := by kernel_rfl
theorem z46 : Tryz.prog.cellsOf 46 = 2 := by kernel_rfl
theorem z64 : Tryz.prog.cellsOf 64 = 3 := by kernel_rfl
theorem z3 : Tryz.prog.cellsOf 3 = 1 := by kernel_rfl
theorem y46 : Tryz.prog.bytesOf 46 = 32 := by kernel_rfl
theorem y64 : 0 < Tryz.prog.bytesOf 64 := of_decide_eq_true (by kernel_rfl)
theorem y3 : 0 < Tryz.prog.bytesOf 3 := of_decide_eq_true (by kernel_rfl)
section
variable {X : Type} {enc : TypeId × Value → X} {w : World} {base : Nat} {spare : Nat → Bool} {held : Bool} {fuel : Nat} {cs : List Value} {x : DataW X × List MemPlace}
theorem flat_choose {α : Type} {f : Nat → List Value} {g : α → List Value} : ∀ {n : Nat}, (∀ i, i < n → ∃ a, f i = g a) → ∃ l : List α, l.length = n ∧ (List.range n).flatMap f = l.flatMap g
  | 0, _ => ⟨[], rfl, rfl⟩
  | n + 1, h => by
    obtain ⟨l, h1, h2⟩ := flat_choose (n := n) (fun i hi => h i (by omega))
    obtain ⟨a, ha⟩ := h n (by omega)
    refine ⟨l ++ [a], by simp [h1], ?_⟩
    rw [List.range_succ, List.flatMap_append, List.flatMap_append, h2]
    simp [ha]
theorem open_str (hsz : Sz Tryz.prog 9 x.1) (h : DataW.trod enc Tryz.prog w base spare held fuel 9 cs = some x) : ∃ s : ByteArray, cs = [.string s] ∧ s.size < huge := by
  obtain ⟨s, rfl, hx, _⟩ := DataW.trod_string u9 h
  refine ⟨s, rfl, ?_⟩
  rw [hx] at hsz
  have := hsz s.data.toList.length (by unfold DataW.weights; exact List.mem_singleton.2 rfl)
  have hl : s.size = s.data.toList.length := by rw [Array.length_toList]; rfl
  rw [← hl] at this
  unfold reachBytes at this
  unfold huge; omega
theorem open_cap {t e : TypeId} {A : Option Addr} {n c : Nat} (ht : Tryz.prog.underlying t = some (.slice e)) (h : DataW.trod enc Tryz.prog w base spare held fuel t [.slice A n c] = some x) : n ≤ c := by
  rcases Go.Deep.open_slice ht h with ⟨e, _⟩ | ⟨a, len, cap, m, n', D, Pl, e, hb, hl, _⟩
  · cases e; exact Nat.le_refl _
  · cases e; exact hl
theorem open_wt {t e : TypeId} {A : Option Addr} {n c : Nat} (ht : Tryz.prog.underlying t = some (.slice e)) (hsz : Sz Tryz.prog t x.1) (h : DataW.trod enc Tryz.prog w base spare held fuel t [.slice A n c] = some x) : n * Tryz.prog.bytesOf e ≤ reachBytes := by
  rcases Go.Deep.open_slice ht h with ⟨e, _⟩ | ⟨a, len, cap, m, n', D, Pl, e, hb, hl, hm, hmm, hx, hi⟩
  · cases e; omega
  · cases e
    have hlm : n ≤ m := by rw [hmm]; split <;> omega
    rw [hx] at hsz
    unfold Sz at hsz
    simp only [DataW.weights, ht, List.length_map, List.length_range, List.mem_cons, List.mem_append] at hsz
    exact Nat.le_trans (Nat.mul_le_mul_right _ (by omega)) (hsz _ (.inl rfl))
theorem open_vals {t : TypeId} (ht : Tryz.prog.underlying t = some (.slice 64)) (hsz : Sz Tryz.prog t x.1) (h : DataW.trod enc Tryz.prog w base spare held fuel t cs = some x) : ∃ A n c l, cs = [.slice A n c] ∧ SlAt vlC (hpOf w) A n l ∧ TxS l ∧ n ≤ c := by
  obtain ⟨A, n, c, f, rfl, hm, hc, hf⟩ := open_cells ht (by rw [z64]; decide) y64 hsz h
  obtain ⟨l, h1, h2⟩ := flat_choose (α := {r : Vl // r.txt.size < huge}) (g := fun r => vlC r.1) (n := n) (f := f) fun i hi => by
    obtain ⟨_, m, y, hys, hy⟩ := hf i hi
    obtain ⟨v0, v1, v2, m', y0, y1, y2, e, ⟨_, _, hs2⟩, e0, e1, e2⟩ := opn3 k64 hys hy
    obtain ⟨a, ha, _⟩ := DataW.trod_int u62 e0
    obtain ⟨b, hb, _⟩ := DataW.trod_int u3 e1
    obtain ⟨s, hs, hsl⟩ := open_str hs2 e2
    cases hs; cases ha; cases hb
    exact ⟨⟨⟨a, b, s⟩, hsl⟩, e⟩
  refine ⟨A, n, c, l.map (·.1), rfl, ⟨by simp [h1], ?_, ?_⟩, fun r hr => ?_, open_cap ht h⟩
  · rw [h2] at hc
    rw [List.flatMap_map]; exact hc
  · rw [List.length_map, h1]; unfold huge; unfold reachBytes at hm; omega
  · obtain ⟨q, _, rfl⟩ := List.mem_map.1 hr
    have := q.2
    unfold huge at this; omega
theorem open_ents (hsz : Sz Tryz.prog 28 x.1) (h : DataW.trod enc Tryz.prog w base spare held fuel 28 cs = some x) : ∃ A n c l, cs = [.slice A n c] ∧ SlAt enC (hpOf w) A n l ∧ (∀ e ∈ l, KeyAt (hpOf w) e) ∧ n ≤ c ∧ n ≤ 4398046510976 := by
  obtain ⟨A, n, c, f, rfl, hm, hc, hf⟩ := open_cells u28 (by rw [z46]; decide) (by rw [y46]; decide) hsz h
  obtain ⟨l, h1, h2⟩ := flat_choose (α := {e : EnM // KeyAt (hpOf w) e}) (g := fun r => enC r.1) (n := n) (f := f) fun i hi => by
    obtain ⟨_, m, y, hys, hy⟩ := hf i hi
    obtain ⟨v0, v1, m', y0, y1, e, ⟨hs0, _⟩, e0, e1⟩ := opn2 k46 hys hy
    obtain ⟨A', n', c', l', ha, g1, g2, g3⟩ := open_vals u44 hs0 e0
    obtain ⟨b, hb, _⟩ := DataW.trod_int u3 e1
    cases ha; cases hb
    have hn := g1.len
    subst hn
    exact ⟨⟨⟨A', c', l', b⟩, g1, g3, g2⟩, e⟩
  have hw := open_wt u28 hsz h
  rw [y46] at hw
  refine ⟨A, n, c, l.map (·.1), rfl, ⟨by simp [h1], ?_, ?_⟩, fun r hr => ?_, open_cap u28 h, by unfold reachBytes at hw; omega⟩
  · rw [h2] at hc
    rw [List.flatMap_map]; exact hc
  · rw [List.length_map, h1]; unfold huge; unfold reachBytes at hm; omega
  · obtain ⟨q, _, rfl⟩ := List.mem_map.1 hr
    exact q.2
theorem open_nums {t : TypeId} (ht : Tryz.prog.underlying t = some (.slice 3)) (hsz : Sz Tryz.prog t x.1) (h : DataW.trod enc Tryz.prog w base spare held fuel t cs = some x) : ∃ A n c l, cs = [.slice A n c] ∧ SlAt inC (hpOf w) A n l := by
  obtain ⟨A, n, c, f, rfl, hm, hc, hf⟩ := open_cells ht (by rw [z3]; decide) y3 hsz h
  obtain ⟨l, h1, h2⟩ := flat_choose (g := inC) (n := n) (f := f) fun i hi => by
    obtain ⟨_, m, y, hys, hy⟩ := hf i hi
    obtain ⟨k, hk, _⟩ := DataW.trod_int u3 hy
    exact ⟨k, hk⟩
  refine ⟨A, n, c, l, rfl, ⟨h1.symm, by rw [← h2]; exact hc, ?_⟩⟩
  rw [h1]; unfold huge; unfold reachBytes at hm; omega
end
open Go.ChangeShapes Go.WideShapes Go.ChangeAt Go.RowKit
theorem ownK : ownKnob Tryz.prog.godebug = none := by kernel_rfl
theorem cellsB_prog : cellsB Tryz.prog = true := by kernel_rfl
def isStruct (d : Option TypeDesc) : Bool := match d with | some (.struct _) => true | _ => false
theorem s46 : isStruct (Tryz.prog.underlying 46) = true := by kernel_rfl
/-- A Boolean result's reading. -/
theorem res_bool {X : Type} {enc : TypeId × Value → X} {W : World} (b : Nat) (sp : Nat → Bool) (hd : Bool) (x : Bool) : DataW.TrodAll enc Tryz.prog W b sp hd [4] [.bool x] [.lit (.bool x)] [] :=
  trodAll_mk1 ⟨1, by simp only [DataW.trod, Value.cells, u4]⟩
theorem ok_bool {W : World} (x : Bool) : Value.okWide Tryz.prog W .any 0 4 (.bool x) := by
  unfold Value.okWide; rw [u4]; simp only [Cell.okWide, u4]; exact trivial
theorem slice_of {P : Program} {W : World} {base : Nat} {t e : TypeId} {v : Value} {A : Option Addr} {n c : Nat} (hs : P.underlying t = some (.slice e)) (h : Value.okWide P W .any base t v) (hc : v.cells.toList = [.slice A n c]) : v = .slice A n c := by
  simp only [Value.okWide, hs, Cell.okWide] at h
  cases v <;> simp_all [Cell.ok, Value.cells]
/-- What the row wants to hear of a result that is a Boolean. -/
theorem ok_bools {W : World} {f : Func} (hf : f.resultTypes = #[4]) (x : Bool) : ∀ (j : Nat) (t : TypeId) (r : Value), f.resultTypes[j]? = some t → ((Value.bool x).resultList f.resultTypes.size)[j]? = some r → Value.okWide Tryz.prog W .any 0 t r := by
  intro j t r h1 h2
  rw [hf] at h1 h2
  match j with
  | 0 =>
    cases (h1 : some 4 = some t)
    cases (h2 : some (Value.bool x) = some r)
    exact ok_bool x
  | j + 1 => cases h1
/-! ### the one variable -/
theorem nullN : Tryz.prog.globalNamed "justiciar/value.Null" = some 0 := by kernel_rfl
theorem nullT : (Tryz.prog.globals[0]?).map (·.type) = some 64 := by kernel_rfl
def theLaid : List (String × DataW Unit) := [("justiciar/value.Null", Rows.laid_justiciar_value_Null)]
theorem null_of_laid {W : World} (h : laidMet Tryz.prog theLaid W) : NullAt (hpOf W) := by
  obtain ⟨ps, ⟨g, t, cs, fuel, p, q, hg, ht, hvar, hd, _, _⟩, _⟩ := h
  obtain rfl := Option.some.inj (nullN.symm.trans hg)
  obtain rfl := Option.some.inj (nullT.symm.trans ht)
  have hk := k64
  unfold chk3 at hk
  rw [Bool.and_eq_true] at hk
  obtain ⟨hk0, hk⟩ := hk
  split at hk
  · rename_i fs hu
    split at hk
    · rename_i f0 f1 f2 hfs
      have : fs = #[f0, f1, f2] := Array.ext' hfs
      subst this
      simp only [Bool.and_eq_true] at hk
      obtain ⟨⟨⟨⟨⟨⟨⟨⟨h1, h2⟩, h3⟩, h4⟩, h5⟩, h6⟩, h7⟩, h8⟩, h9⟩ := hk
      have a0 := Nat.eq_of_beq_eq_true h1
      have a1 := Nat.eq_of_beq_eq_true h4
      have a2 := Nat.eq_of_beq_eq_true h7
      have b0 := Nat.eq_of_beq_eq_true h2
      have b1 := Nat.eq_of_beq_eq_true h5
      have b2 := Nat.eq_of_beq_eq_true h8
      have c0 := Nat.eq_of_beq_eq_true h3
      have c1 := Nat.eq_of_beq_eq_true h6
      have c2 := Nat.eq_of_beq_eq_true h9
      obtain ⟨xs, n, _, hx, hlen, hxl, hf⟩ := DataW.trod_struct hu hd
      rw [z64] at hlen
      have e0 := hf 0 f0 rfl
      have e1 := hf 1 f1 rfl
      have e2 := hf 2 f2 rfl
      rw [a0, b0, c0] at e0
      rw [a1, b1, c1] at e1
      rw [a2, b2, c2] at e2
      generalize hcl : cs.toList = l at *
      match l, hlen, xs, hxl with
      | [v0, v1, v2], _, [y0, y1, y2], _ =>
        obtain ⟨o0, g0, w0, _⟩ := DataW.trod_int u62 e0
        obtain ⟨o1, g1, w1, _⟩ := DataW.trod_int u3 e1
        obtain ⟨s, g2, w2, _⟩ := DataW.trod_string u9 e2
        obtain ⟨hx1, _⟩ := Prod.mk.inj hx
        have hx1 : DataW.agg [.lit (.int .i64 0), .lit (.int .i64 0), .lit (.string [])] = DataW.agg [y0.1, y1.1, y2.1] := hx1
        injection hx1 with hx1
        injection hx1 with q0 hx1
        injection hx1 with q1 hx1
        injection hx1 with q2 _
        rw [show y0.1 = _ from congrArg Prod.fst w0] at q0
        rw [show y1.1 = _ from congrArg Prod.fst w1] at q1
        rw [show y2.1 = _ from congrArg Prod.fst w2] at q2
        have r0 : o0 = 0 := by simpa using q0.symm
        have r1 : o1 = 0 := by simpa using q1.symm
        have r2 : s.data.toList = [] := by simpa using q2.symm
        have r2 : s = { data := #[] } := by
          cases s with
          | mk d => simp at r2; rw [r2]
        have g0 : v0 = .int .i64 o0 := by simpa using g0
        have g1 : v1 = .int .i64 o1 := by simpa using g1
        have g2 : v2 = .string s := by simpa using g2
        subst r0 r1 r2
        have hcs : cs = #[v0, v1, v2] := Array.ext' hcl
        subst hcs
        rw [g0, g1, g2] at hvar
        exact ⟨cl_hp (by simpa using World.var?_cell hg hvar 0), cl_hp (by simpa using World.var?_cell hg hvar 1), cl_hp (by simpa using World.var?_cell hg hvar 2)⟩
    · cases hk
  · cases hk
theorem laid_met (os : Os) (args : Array Value) : laidMet Tryz.prog theLaid ((World.holding Tryz.prog os ⟨#[], #[], []⟩).forCall (fun _ _ => 0) ⟨#[], args, []⟩).memory :=
  laidMet_of_run (ps := [.cell 0 0, .cell 0 1, .cell 0 2]) 8 (by kernel_rfl) (by kernel_rfl) (by kernel_rfl)
end Go.Proofs.YtmelbipidffmpaaGreatDoor.Hw

/- The rows TreeTells, TreeWays and TreeFinds; awake is asked for. -/
set_option linter.unusedVariables false
set_option linter.unusedSimpArgs false
set_option maxRecDepth 100000
namespace Go.Proofs.YtmelbipidffmpaaGreatDoor
open Go.ChangeShapes Go.WideShapes Go.ChangeAt Go.RowKit
open Hw
end Go.Proofs.YtmelbipidffmpaaGreatDoor

/- What functions of the program come to, by the evaluator: printed by a program of this session (gen.py) and checked here. -/
set_option linter.unusedVariables false
set_option maxRecDepth 100000
namespace Go.Proofs.YtmelbipidffmpaaGreatDoor.Hw
open Go Go.Proofs

/-- justiciar tree.Insert -/
def f25 (pt_0_A : Option Addr) (pt_0_n pt_0_c : Nat) (pt_1 : Int) (pt_2 : Int) (pe_0_A : Option Addr) (pe_0_n pe_0_c : Nat) (pe_1 : Int) (H : Hp) (Q : Value → Hp → Prop) : Prop :=
  HCalls Tryz.prog 36 [.agg #[.slice pt_0_A pt_0_n pt_0_c, .int .i64 pt_1, .int .i64 pt_2]] H fun v1 H2 => ∃ p3 : Option Addr, ∃ x4 : Bool, v1 = .tuple #[.pointer p3, .bool x4] ∧ jn (fun (j8 : Bool) (H9 : Hp) => cnd j8 (Q
    (.tuple #[.agg #[.slice none 0 0, .int .i64 0, .int .i64 0], .int .i64 2]) H9) (onPtr p3 fun b11 o11 => ∃ (A12 : Option Addr) (n12 c12 : Nat), cl H9 b11 (o11 + 5) = some (.slice A12 n12 c12) ∧ HCalls Tryz.prog 50
    [.slice A12 n12 c12, .agg #[.slice pe_0_A pe_0_n pe_0_c, .int .i64 pe_1], .func (.func 51) #[] #[]] H9 fun v13 H14 => ∃ x15 : Int, ∃ x16 : Bool, v13 = .tuple #[.int .i64 x15, .bool x16] ∧ cnd x16 (Q (.tuple #[.agg
    #[.slice none 0 0, .int .i64 0, .int .i64 0], .int .i64 14]) H14) (onPtr p3 fun b17 o17 => ∃ (A18 : Option Addr) (n18 c18 : Nat), cl H14 b17 (o17 + 5) = some (.slice A18 n18 c18) ∧ cnd (decide ((((n18 : Nat) : Int) :
    Int) ≥ 4000)) (Q (.tuple #[.agg #[.slice none 0 0, .int .i64 0, .int .i64 0], .int .i64 3]) H14) (HCalls Tryz.prog 52 [.agg #[.slice pt_0_A pt_0_n pt_0_c, .int .i64 pt_1, .int .i64 pt_2], .int .i64 pt_1] H14 fun v19
    H20 => ∃ p21 : Option Addr, v19 = .pointer p21 ∧ HCalls Tryz.prog 37 [.agg #[.slice pe_0_A pe_0_n pe_0_c, .int .i64 pe_1]] H20 fun v22 H23 => ∃ (A24 : Option Addr) (n24 c24 : Nat), ∃ x25 : Int, v22 = .agg #[.slice A24
    n24 c24, .int .i64 x25] ∧ HCalls Tryz.prog 53 [.pointer p21, .agg #[.slice A24 n24 c24, .int .i64 x25]] H23 fun v26 H27 => v26 = .tuple #[] ∧ jn (fun (jp41 : Option Addr) (H42 : Hp) => HCalls Tryz.prog 55 [.pointer
    jp41, .int .i64 pt_2] H42 fun v44 H45 => ∃ (A46 : Option Addr) (n46 c46 : Nat), ∃ x47 : Int, ∃ x48 : Int, v44 = .agg #[.slice A46 n46 c46, .int .i64 x47, .int .i64 x48] ∧ Q (.tuple #[.agg #[.slice A46 n46 c46, .int
    .i64 x47, .int .i64 x48], .int .i64 0]) H45) fun J43 => onPtr p21 fun b28 o28 => ∃ (A29 : Option Addr) (n29 c29 : Nat), cl H27 b28 (o28 + 0) = some (.slice A29 n29 c29) ∧ cnd (decide ((((n29 : Nat) : Int) : Int) > 8))
    (HCalls Tryz.prog 54 [.pointer p21] H27 fun v30 H31 => ∃ (A32 : Option Addr) (n32 c32 : Nat), ∃ x33 : Int, ∃ p34 : Option Addr, v30 = .tuple #[.agg #[.slice A32 n32 c32, .int .i64 x33], .pointer p34] ∧ newF H31 46
    [.slice A32 n32 c32, .int .i64 x33] fun g35 H36 => newF H36 86 [.pointer p21, .pointer p34] fun g37 H38 => newF H38 91 [.slice (some ⟨g35, 0, none⟩) 1 1, .slice (some ⟨g37, 0, none⟩) 2 2] fun g39 H40 => J43 (some
    ⟨g39, 0, none⟩) H40) (J43 p21 H27))))) fun J10 => cnd (!x4) (J10 true H2) (HCalls Tryz.prog 49 [.agg #[.slice pe_0_A pe_0_n pe_0_c, .int .i64 pe_1], .int .i64 pt_2] H2 fun v5 H6 => ∃ x7 : Bool, v5 = .bool x7 ∧ J10
    (!x7) H6)
noncomputable def fcx25 : Cx := cx 76 [(2, true), (3, true), (4, true), (11, true)] [] [(4, (.look 0 (.look 1 (.look 2 (.look 3 (.look 4 (.act 5 (.look 6 (.look 7 (.look 8 (.act 9 (.act 10 .done .done) .done)))) .done)))))))] []
theorem f25.eq (pt_0_A : Option Addr) (pt_0_n pt_0_c : Nat) (pt_1 : Int) (pt_2 : Int) (pe_0_A : Option Addr) (pe_0_n pe_0_c : Nat) (pe_1 : Int) (H : Hp) (Q : Value → Hp → Prop) : f25 pt_0_A pt_0_n pt_0_c pt_1 pt_2 pe_0_A pe_0_n pe_0_c pe_1 H Q = wFun fcx25 Tryz.f25 [.agg #[.slice pt_0_A pt_0_n pt_0_c, .int .i64 pt_1, .int .i64 pt_2], .agg #[.slice pe_0_A pe_0_n pe_0_c, .int .i64 pe_1]] H Q := by kernel_rfl
theorem f25.ok (pt_0_A : Option Addr) (pt_0_n pt_0_c : Nat) (pt_1 : Int) (pt_2 : Int) (pe_0_A : Option Addr) (pe_0_n pe_0_c : Nat) (pe_1 : Int) {H : Hp} {Q : Value → Hp → Prop} (h : f25 pt_0_A pt_0_n pt_0_c pt_1 pt_2 pe_0_A pe_0_n pe_0_c pe_1 H Q) : HCalls Tryz.prog 25 [.agg #[.slice pt_0_A pt_0_n pt_0_c, .int .i64 pt_1, .int .i64 pt_2], .agg #[.slice pe_0_A pe_0_n pe_0_c, .int .i64 pe_1]] H Q := hcalls_of (cxOk _ _ _ _ _) Tryz.func25 (Eq.mp (f25.eq pt_0_A pt_0_n pt_0_c pt_1 pt_2 pe_0_A pe_0_n pe_0_c pe_1 H Q) h)

/-- justiciar tree.Delete -/
def f28 (pt_0_A : Option Addr) (pt_0_n pt_0_c : Nat) (pt_1 : Int) (pt_2 : Int) (pe_0_A : Option Addr) (pe_0_n pe_0_c : Nat) (pe_1 : Int) (H : Hp) (Q : Value → Hp → Prop) : Prop :=
  HCalls Tryz.prog 36 [.agg #[.slice pt_0_A pt_0_n pt_0_c, .int .i64 pt_1, .int .i64 pt_2]] H fun v1 H2 => ∃ p3 : Option Addr, ∃ x4 : Bool, v1 = .tuple #[.pointer p3, .bool x4] ∧ jn (fun (j8 : Bool) (H9 : Hp) => cnd j8 (Q
    (.tuple #[.agg #[.slice none 0 0, .int .i64 0, .int .i64 0], .int .i64 2]) H9) (onPtr p3 fun b11 o11 => ∃ (A12 : Option Addr) (n12 c12 : Nat), cl H9 b11 (o11 + 5) = some (.slice A12 n12 c12) ∧ HCalls Tryz.prog 50
    [.slice A12 n12 c12, .agg #[.slice pe_0_A pe_0_n pe_0_c, .int .i64 pe_1], .func (.func 51) #[] #[]] H9 fun v13 H14 => ∃ x15 : Int, ∃ x16 : Bool, v13 = .tuple #[.int .i64 x15, .bool x16] ∧ cnd (!x16) (Q (.tuple #[.agg
    #[.slice none 0 0, .int .i64 0, .int .i64 0], .int .i64 4]) H14) (HCalls Tryz.prog 52 [.agg #[.slice pt_0_A pt_0_n pt_0_c, .int .i64 pt_1, .int .i64 pt_2], .int .i64 pt_1] H14 fun v17 H18 => ∃ p19 : Option Addr, v17 =
    .pointer p19 ∧ HCalls Tryz.prog 58 [.pointer p19, .agg #[.slice pe_0_A pe_0_n pe_0_c, .int .i64 pe_1]] H18 fun v20 H21 => v20 = .tuple #[] ∧ jn (fun (jp32 : Option Addr) => HCalls Tryz.prog 55 [.pointer jp32, .int
    .i64 pt_2] H21 fun v34 H35 => ∃ (A36 : Option Addr) (n36 c36 : Nat), ∃ x37 : Int, ∃ x38 : Int, v34 = .agg #[.slice A36 n36 c36, .int .i64 x37, .int .i64 x38] ∧ Q (.tuple #[.agg #[.slice A36 n36 c36, .int .i64 x37,
    .int .i64 x38], .int .i64 0]) H35) fun J33 => jn (fun (j26 : Bool) => cnd j26 (onPtr p19 fun b28 o28 => ∃ (A29 : Option Addr) (n29 c29 : Nat), cl H21 b28 (o28 + 1) = some (.slice A29 n29 c29) ∧ 0 ≤ (0 : Int) ∧ (0 :
    Int) < ((n29 : Nat) : Int) ∧ onPtr A29 fun b30 o30 => ∃ p31 : Option Addr, cl H21 b30 (o30 + (0 : Int).toNat * 1) = some (.pointer p31) ∧ J33 p31) (J33 p19)) fun J27 => onPtr p19 fun b22 o22 => ∃ (A23 : Option Addr)
    (n23 c23 : Nat), cl H21 b22 (o22 + 0) = some (.slice A23 n23 c23) ∧ cnd ((((n23 : Nat) : Int) : Int) == 0) (onPtr p19 fun b24 o24 => ∃ (A25 : Option Addr) (n25 c25 : Nat), cl H21 b24 (o24 + 1) = some (.slice A25 n25
    c25) ∧ J27 (decide ((((n25 : Nat) : Int) : Int) > 0))) (J27 false)))) fun J10 => cnd (!x4) (J10 true H2) (HCalls Tryz.prog 49 [.agg #[.slice pe_0_A pe_0_n pe_0_c, .int .i64 pe_1], .int .i64 pt_2] H2 fun v5 H6 => ∃ x7
    : Bool, v5 = .bool x7 ∧ J10 (!x7) H6)
noncomputable def fcx28 : Cx := cx 69 [(2, true), (3, true), (4, true)] [] [(4, (.look 0 (.look 1 (.look 2 (.look 3 (.look 4 (.act 5 (.look 6 (.look 7 (.look 8 (.act 9 (.act 10 .done .done) .done)))) .done)))))))] []
theorem f28.eq (pt_0_A : Option Addr) (pt_0_n pt_0_c : Nat) (pt_1 : Int) (pt_2 : Int) (pe_0_A : Option Addr) (pe_0_n pe_0_c : Nat) (pe_1 : Int) (H : Hp) (Q : Value → Hp → Prop) : f28 pt_0_A pt_0_n pt_0_c pt_1 pt_2 pe_0_A pe_0_n pe_0_c pe_1 H Q = wFun fcx28 Tryz.f28 [.agg #[.slice pt_0_A pt_0_n pt_0_c, .int .i64 pt_1, .int .i64 pt_2], .agg #[.slice pe_0_A pe_0_n pe_0_c, .int .i64 pe_1]] H Q := by kernel_rfl
theorem f28.ok (pt_0_A : Option Addr) (pt_0_n pt_0_c : Nat) (pt_1 : Int) (pt_2 : Int) (pe_0_A : Option Addr) (pe_0_n pe_0_c : Nat) (pe_1 : Int) {H : Hp} {Q : Value → Hp → Prop} (h : f28 pt_0_A pt_0_n pt_0_c pt_1 pt_2 pe_0_A pe_0_n pe_0_c pe_1 H Q) : HCalls Tryz.prog 28 [.agg #[.slice pt_0_A pt_0_n pt_0_c, .int .i64 pt_1, .int .i64 pt_2], .agg #[.slice pe_0_A pe_0_n pe_0_c, .int .i64 pe_1]] H Q := hcalls_of (cxOk _ _ _ _ _) Tryz.func28 (Eq.mp (f28.eq pt_0_A pt_0_n pt_0_c pt_1 pt_2 pe_0_A pe_0_n pe_0_c pe_1 H Q) h)

/-- justiciar tree.Make -/
def f31 (pcols : Int) (pl_A : Option Addr) (pl_n pl_c : Nat) (H : Hp) (Q : Value → Hp → Prop) : Prop :=
  newF H 3 [.int .i64 pcols] fun g1 H2 => jn (fun (j8 : Bool) (H9 : Hp) => cnd j8 (Q (.tuple #[.agg #[.slice none 0 0, .int .i64 0, .int .i64 0], .int .i64 2]) H9) (HCalls Tryz.prog 62 [.slice pl_A pl_n pl_c] H9 fun v11 H12
    => ∃ (A13 : Option Addr) (n13 c13 : Nat), v11 = .slice A13 n13 c13 ∧ HCalls Tryz.prog 63 [.slice A13 n13 c13, .func (.func 51) #[] #[]] H12 fun v14 H15 => v14 = .tuple #[] ∧ LoopF (σ := (Int × Unit) × (((Option Addr ×
    Nat × Nat) × (Int × (Int × Unit))) × Unit)) ((0, ()), (((none, 0, 0), (0, (0, ()))), ())) H15 fun s16 H17 next18 => cnd (decide ((s16.1.1 : Int) < ((n13 : Nat) : Int))) (0 ≤ (s16.1.1 : Int) ∧ (s16.1.1 : Int) < ((n13 :
    Nat) : Int) ∧ onPtr A13 fun b19 o19 => ∃ (A20 : Option Addr) (n20 c20 : Nat), cl H17 b19 (o19 + (s16.1.1 : Int).toNat * 2) = some (.slice A20 n20 c20) ∧ ∃ x21 : Int, cl H17 b19 ((o19 + (s16.1.1 : Int).toNat * 2) + 1)
    = some (.int .i64 x21) ∧ jn (fun (j28 : Bool) (H29 : Hp) => cnd j28 (Q (.tuple #[.agg #[.slice none 0 0, .int .i64 0, .int .i64 0], .int .i64 14]) H29) (KeepX [some (.v (.pointer (some ⟨g1, 0, none⟩))), some (.loc 4
    0), some (.v (.slice A13 n13 c13)), some (.v (.slice A13 n13 c13)), some (.v (.int .i64 ((n13 : Nat) : Int)))] [] ∧ next18 ((IntKind.i64.wrap (s16.1.1 + 1), ()), (((s16.2.1.1.1, s16.2.1.1.2.1, s16.2.1.1.2.2),
    (s16.2.1.2.1, (s16.2.1.2.2.1, ()))), ())) H29)) fun J30 => cnd (decide ((s16.1.1 : Int) > 0)) (0 ≤ (IntKind.i64.wrap (s16.1.1 - 1) : Int) ∧ (IntKind.i64.wrap (s16.1.1 - 1) : Int) < ((n13 : Nat) : Int) ∧ onPtr A13 fun
    b22 o22 => ∃ (A23 : Option Addr) (n23 c23 : Nat), cl H17 b22 (o22 + (IntKind.i64.wrap (s16.1.1 - 1) : Int).toNat * 2) = some (.slice A23 n23 c23) ∧ ∃ x24 : Int, cl H17 b22 ((o22 + (IntKind.i64.wrap (s16.1.1 - 1) :
    Int).toNat * 2) + 1) = some (.int .i64 x24) ∧ HCalls Tryz.prog 51 [.agg #[.slice A23 n23 c23, .int .i64 x24], .agg #[.slice A20 n20 c20, .int .i64 x21]] H17 fun v25 H26 => ∃ x27 : Int, v25 = .int .i64 x27 ∧ J30 ((x27
    : Int) == 0) H26) (J30 false H17)) (cnd (decide ((((n13 : Nat) : Int) : Int) > 4000)) (Q (.tuple #[.agg #[.slice none 0 0, .int .i64 0, .int .i64 0], .int .i64 3]) H17) (newF H17 91 [.slice none 0 0, .slice none 0 0]
    fun g31 H32 => LoopF (σ := (Option Addr × (Int × Unit)) × Unit) ((some ⟨g31, 0, none⟩, (0, ())), ()) H32 fun s33 H34 next35 => cnd (decide ((s33.1.2.1 : Int) < ((n13 : Nat) : Int))) (jn (fun (jp58 : Option Addr) (H59
    : Hp) => KeepX [some (.v (.pointer (some ⟨g1, 0, none⟩))), some (.loc 4 0), some (.v (.slice A13 n13 c13)), some (.v (.int .i64 ((n13 : Nat) : Int)))] [some (true, [.slice s16.2.1.1.1 s16.2.1.1.2.1 s16.2.1.1.2.2, .int
    .i64 s16.2.1.2.1, .int .i64 s16.2.1.2.2.1])] ∧ next35 ((jp58, (IntKind.i64.wrap (s33.1.2.1 + 1), ())), ()) H59) fun J60 => 0 ≤ (s33.1.2.1 : Int) ∧ (s33.1.2.1 : Int) < ((n13 : Nat) : Int) ∧ onPtr A13 fun b36 o36 => ∃
    (A37 : Option Addr) (n37 c37 : Nat), cl H34 b36 (o36 + (s33.1.2.1 : Int).toNat * 2) = some (.slice A37 n37 c37) ∧ ∃ x38 : Int, cl H34 b36 ((o36 + (s33.1.2.1 : Int).toNat * 2) + 1) = some (.int .i64 x38) ∧ HCalls
    Tryz.prog 37 [.agg #[.slice A37 n37 c37, .int .i64 x38]] H34 fun v39 H40 => ∃ (A41 : Option Addr) (n41 c41 : Nat), ∃ x42 : Int, v39 = .agg #[.slice A41 n41 c41, .int .i64 x42] ∧ HCalls Tryz.prog 53 [.pointer s33.1.1,
    .agg #[.slice A41 n41 c41, .int .i64 x42]] H40 fun v43 H44 => v43 = .tuple #[] ∧ onPtr s33.1.1 fun b45 o45 => ∃ (A46 : Option Addr) (n46 c46 : Nat), cl H44 b45 (o45 + 0) = some (.slice A46 n46 c46) ∧ cnd (decide
    ((((n46 : Nat) : Int) : Int) > 8)) (HCalls Tryz.prog 54 [.pointer s33.1.1] H44 fun v47 H48 => ∃ (A49 : Option Addr) (n49 c49 : Nat), ∃ x50 : Int, ∃ p51 : Option Addr, v47 = .tuple #[.agg #[.slice A49 n49 c49, .int
    .i64 x50], .pointer p51] ∧ newF H48 46 [.slice A49 n49 c49, .int .i64 x50] fun g52 H53 => newF H53 86 [.pointer s33.1.1, .pointer p51] fun g54 H55 => newF H55 91 [.slice (some ⟨g52, 0, none⟩) 1 1, .slice (some ⟨g54,
    0, none⟩) 2 2] fun g56 H57 => J60 (some ⟨g56, 0, none⟩) H57) (J60 s33.1.1 H44)) (∃ x61 : Int, cl H34 g1 0 = some (.int .i64 x61) ∧ HCalls Tryz.prog 55 [.pointer s33.1.1, .int .i64 x61] H34 fun v62 H63 => ∃ (A64 :
    Option Addr) (n64 c64 : Nat), ∃ x65 : Int, ∃ x66 : Int, v62 = .agg #[.slice A64 n64 c64, .int .i64 x65, .int .i64 x66] ∧ Q (.tuple #[.agg #[.slice A64 n64 c64, .int .i64 x65, .int .i64 x66], .int .i64 0]) H63))))) fun
    J10 => ∃ x3 : Int, cl H2 g1 0 = some (.int .i64 x3) ∧ cnd (decide ((x3 : Int) < 1)) (J10 true H2) (∃ x4 : Int, cl H2 g1 0 = some (.int .i64 x4) ∧ cnd (decide ((x4 : Int) > 20)) (J10 true H2) (HCalls Tryz.prog 60
    [.slice pl_A pl_n pl_c, .func (.func 61) #[] #[.pointer (some ⟨g1, 0, none⟩)]] H2 fun v5 H6 => ∃ x7 : Bool, v5 = .bool x7 ∧ J10 x7 H6))
noncomputable def fcx31 : Cx := cx 89 [(4, true), (8, true), (11, true), (12, true)] [(6, ⟨[2, 4, 6, 30, 31], [], [(32, .int .i64)], [(4, [.slice, .int .i64, .int .i64])]⟩), (15, ⟨[2, 4, 57, 58], [4], [(9, .ptr), (59, .int .i64)], []⟩)] [(8, (.look 0 (.look 1 (.look 2 (.look 3 (.look 4 (.look 5 (.look 6 (.look 7 (.look 8 (.act 9 (.look 10 (.look 11 .done)) .done)))))))))))] []
theorem f31.eq (pcols : Int) (pl_A : Option Addr) (pl_n pl_c : Nat) (H : Hp) (Q : Value → Hp → Prop) : f31 pcols pl_A pl_n pl_c H Q = wFun fcx31 Tryz.f31 [.int .i64 pcols, .slice pl_A pl_n pl_c] H Q := by kernel_rfl
theorem f31.ok (pcols : Int) (pl_A : Option Addr) (pl_n pl_c : Nat) {H : Hp} {Q : Value → Hp → Prop} (h : f31 pcols pl_A pl_n pl_c H Q) : HCalls Tryz.prog 31 [.int .i64 pcols, .slice pl_A pl_n pl_c] H Q := hcalls_of (cxOk _ _ _ _ _) Tryz.func31 (Eq.mp (f31.eq pcols pl_A pl_n pl_c H Q) h)

/-- justiciar tree.New -/
def f33 (pcols : Int) (H : Hp) (Q : Value → Hp → Prop) : Prop :=
  jn (fun (j1 : Bool) => cnd j1 (Q (.tuple #[.agg #[.slice none 0 0, .int .i64 0, .int .i64 0], .int .i64 2]) H) (((1 : Int) = 1 ∧ 0 ≤ (1 : Int) ∧ (1 : Int) ≤ 16777216 ∧ newF H 60 (List.replicate ((1 : Int).toNat) [.slice
    none 0 0, .slice none 0 0]).flatten fun g3 H4 => Q (.tuple #[.agg #[.slice (some ⟨g3, 0, none⟩) ((1 : Int).toNat) ((1 : Int).toNat), .int .i64 0, .int .i64 pcols], .int .i64 0]) H4))) fun J2 => cnd (decide ((pcols :
    Int) < 1)) (J2 true) (J2 (decide ((pcols : Int) > 20)))
noncomputable def fcx33 : Cx := cx 14 [(2, true)] [] [] []
theorem f33.eq (pcols : Int) (H : Hp) (Q : Value → Hp → Prop) : f33 pcols H Q = wFun fcx33 Tryz.f33 [.int .i64 pcols] H Q := by kernel_rfl
theorem f33.ok (pcols : Int) {H : Hp} {Q : Value → Hp → Prop} (h : f33 pcols H Q) : HCalls Tryz.prog 33 [.int .i64 pcols] H Q := hcalls_of (cxOk _ _ _ _ _) Tryz.func33 (Eq.mp (f33.eq pcols H Q) h)

/-- justiciar tree.grown -/
def f52 (pt_0_A : Option Addr) (pt_0_n pt_0_c : Nat) (pt_1 : Int) (pt_2 : Int) (pi : Int) (H : Hp) (Q : Value → Hp → Prop) : Prop :=
  newF H 91 [.slice none 0 0, .slice none 0 0] fun g1 H2 => 0 ≤ (pi : Int) ∧ (pi : Int) < ((pt_0_n : Nat) : Int) ∧ onPtr pt_0_A fun b3 o3 => ∃ (A4 : Option Addr) (n4 c4 : Nat), cl H2 b3 ((o3 + (pi : Int).toNat * 2) + 0) =
    some (.slice A4 n4 c4) ∧ LoopF (σ := (Int × Unit) × Unit) ((0, ()), ()) H2 fun s5 H6 next7 => cnd (decide ((s5.1.1 : Int) < ((n4 : Nat) : Int))) (0 ≤ (s5.1.1 : Int) ∧ (s5.1.1 : Int) < ((n4 : Nat) : Int) ∧ onPtr A4 fun
    b8 o8 => ∃ (A9 : Option Addr) (n9 c9 : Nat), cl H6 b8 (o8 + (s5.1.1 : Int).toNat * 2) = some (.slice A9 n9 c9) ∧ ∃ x10 : Int, cl H6 b8 ((o8 + (s5.1.1 : Int).toNat * 2) + 1) = some (.int .i64 x10) ∧ ∃ (A11 : Option
    Addr) (n11 c11 : Nat), cl H6 g1 (0 + 0) = some (.slice A11 n11 c11) ∧ HCalls Tryz.prog 37 [.agg #[.slice A9 n9 c9, .int .i64 x10]] H6 fun v12 H13 => ∃ (A14 : Option Addr) (n14 c14 : Nat), ∃ x15 : Int, v12 = .agg
    #[.slice A14 n14 c14, .int .i64 x15] ∧ H13 g1 = H6 g1 ∧ newF H13 46 [.slice A14 n14 c14, .int .i64 x15] fun g16 H17 => appendF H17 46 2 32 A11 n11 c11 (some ⟨g16, 0, none⟩) 1 fun A18 n18 c18 H19 => storeF H19 g1 (0 +
    0) [.slice A18 n18 c18] fun H20 => KeepX [some (.v (.int .i64 pi)), some (.loc 2 0), some (.v (.pointer (some ⟨g1, 0, none⟩))), some (.v (.slice A4 n4 c4)), some (.v (.int .i64 ((n4 : Nat) : Int)))] [some (true,
    [.slice pt_0_A pt_0_n pt_0_c, .int .i64 pt_1, .int .i64 pt_2])] ∧ next7 ((IntKind.i64.wrap (s5.1.1 + 1), ()), ()) H20) (0 ≤ (pi : Int) ∧ (pi : Int) < ((pt_0_n : Nat) : Int) ∧ onPtr pt_0_A fun b21 o21 => ∃ (A22 :
    Option Addr) (n22 c22 : Nat), cl H6 b21 ((o21 + (pi : Int).toNat * 2) + 1) = some (.slice A22 n22 c22) ∧ LoopF (σ := (Int × Unit) × Unit) ((0, ()), ()) H6 fun s23 H24 next25 => cnd (decide ((s23.1.1 : Int) < ((n22 :
    Nat) : Int))) (0 ≤ (s23.1.1 : Int) ∧ (s23.1.1 : Int) < ((n22 : Nat) : Int) ∧ onPtr A22 fun b26 o26 => ∃ x27 : Int, cl H24 b26 (o26 + (s23.1.1 : Int).toNat * 1) = some (.int .i64 x27) ∧ ∃ (A28 : Option Addr) (n28 c28 :
    Nat), cl H24 g1 (0 + 1) = some (.slice A28 n28 c28) ∧ HCalls Tryz.prog 52 [.agg #[.slice pt_0_A pt_0_n pt_0_c, .int .i64 pt_1, .int .i64 pt_2], .int .i64 x27] H24 fun v29 H30 => ∃ p31 : Option Addr, v29 = .pointer p31
    ∧ H30 g1 = H24 g1 ∧ newF H30 86 [.pointer p31] fun g32 H33 => appendF H33 86 1 8 A28 n28 c28 (some ⟨g32, 0, none⟩) 1 fun A34 n34 c34 H35 => storeF H35 g1 (0 + 1) [.slice A34 n34 c34] fun H36 => KeepX [some (.loc 2 0),
    some (.v (.pointer (some ⟨g1, 0, none⟩))), some (.v (.slice A22 n22 c22)), some (.v (.int .i64 ((n22 : Nat) : Int)))] [some (true, [.slice pt_0_A pt_0_n pt_0_c, .int .i64 pt_1, .int .i64 pt_2])] ∧ next25
    ((IntKind.i64.wrap (s23.1.1 + 1), ()), ()) H36) (Q (.pointer (some ⟨g1, 0, none⟩)) H24))
noncomputable def fcx52 : Cx := cx 60 [(2, true), (7, true)] [(3, ⟨[1, 2, 5, 17, 18], [2], [(19, .int .i64)], []⟩), (8, ⟨[2, 5, 40, 41], [2], [(42, .int .i64)], []⟩)] [(5, (.look 0 (.look 1 (.look 2 (.look 3 (.look 4 (.look 5 (.act 6 (.act 7 (.act 8 (.look 9 (.look 10 (.act 11 .done .done))) .done) .done) .done)))))))), (10, (.look 0 (.look 1 (.look 2 (.look 3 (.look 4 (.look 5 (.look 6 (.act 7 (.act 8 (.act 9 (.look 10 (.look 11 (.act 12 .done .done))) .done) .done) .done)))))))))] []
theorem f52.eq (pt_0_A : Option Addr) (pt_0_n pt_0_c : Nat) (pt_1 : Int) (pt_2 : Int) (pi : Int) (H : Hp) (Q : Value → Hp → Prop) : f52 pt_0_A pt_0_n pt_0_c pt_1 pt_2 pi H Q = wFun fcx52 Tryz.f52 [.agg #[.slice pt_0_A pt_0_n pt_0_c, .int .i64 pt_1, .int .i64 pt_2], .int .i64 pi] H Q := by kernel_rfl
theorem f52.ok (pt_0_A : Option Addr) (pt_0_n pt_0_c : Nat) (pt_1 : Int) (pt_2 : Int) (pi : Int) {H : Hp} {Q : Value → Hp → Prop} (h : f52 pt_0_A pt_0_n pt_0_c pt_1 pt_2 pi H Q) : HCalls Tryz.prog 52 [.agg #[.slice pt_0_A pt_0_n pt_0_c, .int .i64 pt_1, .int .i64 pt_2], .int .i64 pi] H Q := hcalls_of (cxOk _ _ _ _ _) Tryz.func52 (Eq.mp (f52.eq pt_0_A pt_0_n pt_0_c pt_1 pt_2 pi H Q) h)

/-- (*justiciar tree.node).insert -/
def f53 (pn_b pn_o : Nat) (pe_0_A : Option Addr) (pe_0_n pe_0_c : Nat) (pe_1 : Int) (H : Hp) (Q : Value → Hp → Prop) : Prop :=
  HCalls Tryz.prog 78 [.pointer (some ⟨pn_b, pn_o, none⟩), .agg #[.slice pe_0_A pe_0_n pe_0_c, .int .i64 pe_1]] H fun v1 H2 => ∃ x3 : Int, ∃ x4 : Bool, v1 = .tuple #[.int .i64 x3, .bool x4] ∧ ∃ (A5 : Option Addr) (n5 c5 :
    Nat), cl H2 pn_b (pn_o + 1) = some (.slice A5 n5 c5) ∧ cnd ((((n5 : Nat) : Int) : Int) == 0) (∃ (A6 : Option Addr) (n6 c6 : Nat), cl H2 pn_b (pn_o + 0) = some (.slice A6 n6 c6) ∧ newF H2 46 [.slice pe_0_A pe_0_n
    pe_0_c, .int .i64 pe_1] fun g7 H8 => HCalls Tryz.prog 79 [.slice A6 n6 c6, .int .i64 x3, .slice (some ⟨g7, 0, none⟩) 1 1] H8 fun v9 H10 => ∃ (A11 : Option Addr) (n11 c11 : Nat), v9 = .slice A11 n11 c11 ∧ storeF H10
    pn_b (pn_o + 0) [.slice A11 n11 c11] fun H12 => Q (.tuple #[]) H12) (∃ (A13 : Option Addr) (n13 c13 : Nat), cl H2 pn_b (pn_o + 1) = some (.slice A13 n13 c13) ∧ 0 ≤ (x3 : Int) ∧ (x3 : Int) < ((n13 : Nat) : Int) ∧ onPtr
    A13 fun b14 o14 => ∃ p15 : Option Addr, cl H2 b14 (o14 + (x3 : Int).toNat * 1) = some (.pointer p15) ∧ HCalls Tryz.prog 53 [.pointer p15, .agg #[.slice pe_0_A pe_0_n pe_0_c, .int .i64 pe_1]] H2 fun v16 H17 => v16 =
    .tuple #[] ∧ onPtr p15 fun b18 o18 => ∃ (A19 : Option Addr) (n19 c19 : Nat), cl H17 b18 (o18 + 0) = some (.slice A19 n19 c19) ∧ cnd (decide ((((n19 : Nat) : Int) : Int) > 8)) (HCalls Tryz.prog 54 [.pointer p15] H17
    fun v20 H21 => ∃ (A22 : Option Addr) (n22 c22 : Nat), ∃ x23 : Int, ∃ p24 : Option Addr, v20 = .tuple #[.agg #[.slice A22 n22 c22, .int .i64 x23], .pointer p24] ∧ ∃ (A25 : Option Addr) (n25 c25 : Nat), cl H21 pn_b
    (pn_o + 0) = some (.slice A25 n25 c25) ∧ newF H21 46 [.slice A22 n22 c22, .int .i64 x23] fun g26 H27 => HCalls Tryz.prog 79 [.slice A25 n25 c25, .int .i64 x3, .slice (some ⟨g26, 0, none⟩) 1 1] H27 fun v28 H29 => ∃
    (A30 : Option Addr) (n30 c30 : Nat), v28 = .slice A30 n30 c30 ∧ storeF H29 pn_b (pn_o + 0) [.slice A30 n30 c30] fun H31 => ∃ (A32 : Option Addr) (n32 c32 : Nat), cl H31 pn_b (pn_o + 1) = some (.slice A32 n32 c32) ∧
    newF H31 86 [.pointer p24] fun g33 H34 => HCalls Tryz.prog 80 [.slice A32 n32 c32, .int .i64 (IntKind.i64.wrap (x3 + 1)), .slice (some ⟨g33, 0, none⟩) 1 1] H34 fun v35 H36 => ∃ (A37 : Option Addr) (n37 c37 : Nat), v35
    = .slice A37 n37 c37 ∧ storeF H36 pn_b (pn_o + 1) [.slice A37 n37 c37] fun H38 => Q (.tuple #[]) H38) (Q (.tuple #[]) H17))
noncomputable def fcx53 : Cx := cx 76 [(3, true), (7, true)] [] [(3, (.look 0 (.look 1 (.look 2 (.look 3 (.look 4 (.look 5 (.look 6 (.act 7 (.act 8 (.look 9 (.look 10 (.act 11 .done .done))) .done) .done))))))))), (8, (.look 0 (.look 1 (.look 2 (.look 3 (.look 4 (.look 5 (.look 6 (.act 7 (.act 8 (.look 9 (.look 10 (.act 11 .done .done))) .done) .done)))))))))] []
theorem f53.eq (pn_b pn_o : Nat) (pe_0_A : Option Addr) (pe_0_n pe_0_c : Nat) (pe_1 : Int) (H : Hp) (Q : Value → Hp → Prop) : f53 pn_b pn_o pe_0_A pe_0_n pe_0_c pe_1 H Q = wFun fcx53 Tryz.f53 [.pointer (some ⟨pn_b, pn_o, none⟩), .agg #[.slice pe_0_A pe_0_n pe_0_c, .int .i64 pe_1]] H Q := by kernel_rfl
theorem f53.ok (pn_b pn_o : Nat) (pe_0_A : Option Addr) (pe_0_n pe_0_c : Nat) (pe_1 : Int) {H : Hp} {Q : Value → Hp → Prop} (h : f53 pn_b pn_o pe_0_A pe_0_n pe_0_c pe_1 H Q) : HCalls Tryz.prog 53 [.pointer (some ⟨pn_b, pn_o, none⟩), .agg #[.slice pe_0_A pe_0_n pe_0_c, .int .i64 pe_1]] H Q := hcalls_of (cxOk _ _ _ _ _) Tryz.func53 (Eq.mp (f53.eq pn_b pn_o pe_0_A pe_0_n pe_0_c pe_1 H Q) h)

/-- (*justiciar tree.node).split -/
def f54 (pn_b pn_o : Nat) (H : Hp) (Q : Value → Hp → Prop) : Prop :=
  ∃ (A1 : Option Addr) (n1 c1 : Nat), cl H pn_b (pn_o + 0) = some (.slice A1 n1 c1) ∧ (2 : Int) ≠ 0 ∧ ∃ (A2 : Option Addr) (n2 c2 : Nat), cl H pn_b (pn_o + 0) = some (.slice A2 n2 c2) ∧ 0 ≤ (IntKind.i64.wrap (Int.tdiv ((n1
    : Nat) : Int) 2) : Int) ∧ (IntKind.i64.wrap (Int.tdiv ((n1 : Nat) : Int) 2) : Int) < ((n2 : Nat) : Int) ∧ onPtr A2 fun b3 o3 => ∃ (A4 : Option Addr) (n4 c4 : Nat), cl H b3 (o3 + (IntKind.i64.wrap (Int.tdiv ((n1 : Nat)
    : Int) 2) : Int).toNat * 2) = some (.slice A4 n4 c4) ∧ ∃ x5 : Int, cl H b3 ((o3 + (IntKind.i64.wrap (Int.tdiv ((n1 : Nat) : Int) 2) : Int).toNat * 2) + 1) = some (.int .i64 x5) ∧ ∃ (A6 : Option Addr) (n6 c6 : Nat), cl
    H pn_b (pn_o + 0) = some (.slice A6 n6 c6) ∧ 0 ≤ (IntKind.i64.wrap ((IntKind.i64.wrap (Int.tdiv ((n1 : Nat) : Int) 2)) + 1) : Int) ∧ (IntKind.i64.wrap ((IntKind.i64.wrap (Int.tdiv ((n1 : Nat) : Int) 2)) + 1) : Int) ≤
    ((n6 : Nat) : Int) ∧ HCalls Tryz.prog 62 [.slice (cutA A6 (((IntKind.i64.wrap ((IntKind.i64.wrap (Int.tdiv ((n1 : Nat) : Int) 2)) + 1) : Int).toNat) * 2) (decide (c6 = ((IntKind.i64.wrap ((IntKind.i64.wrap (Int.tdiv
    ((n1 : Nat) : Int) 2)) + 1) : Int).toNat)))) (n6 - ((IntKind.i64.wrap ((IntKind.i64.wrap (Int.tdiv ((n1 : Nat) : Int) 2)) + 1) : Int).toNat)) (c6 - ((IntKind.i64.wrap ((IntKind.i64.wrap (Int.tdiv ((n1 : Nat) : Int)
    2)) + 1) : Int).toNat))] H fun v7 H8 => ∃ (A9 : Option Addr) (n9 c9 : Nat), v7 = .slice A9 n9 c9 ∧ newF H8 91 [.slice A9 n9 c9, .slice none 0 0] fun g10 H11 => jn (fun (H20 : Hp) => ∃ (A22 : Option Addr) (n22 c22 :
    Nat), cl H20 pn_b (pn_o + 0) = some (.slice A22 n22 c22) ∧ 0 ≤ (IntKind.i64.wrap (Int.tdiv ((n1 : Nat) : Int) 2) : Int) ∧ (IntKind.i64.wrap (Int.tdiv ((n1 : Nat) : Int) 2) : Int) ≤ ((c22 : Nat) : Int) ∧ storeF H20
    pn_b (pn_o + 0) [.slice (cutA A22 (0 * 2) (decide (c22 = 0))) (((IntKind.i64.wrap (Int.tdiv ((n1 : Nat) : Int) 2) : Int).toNat) - 0) (c22 - 0)] fun H23 => Q (.tuple #[.agg #[.slice A4 n4 c4, .int .i64 x5], .pointer
    (some ⟨g10, 0, none⟩)]) H23) fun J21 => ∃ (A12 : Option Addr) (n12 c12 : Nat), cl H11 pn_b (pn_o + 1) = some (.slice A12 n12 c12) ∧ cnd (decide ((((n12 : Nat) : Int) : Int) > 0)) (∃ (A13 : Option Addr) (n13 c13 :
    Nat), cl H11 pn_b (pn_o + 1) = some (.slice A13 n13 c13) ∧ 0 ≤ (IntKind.i64.wrap ((IntKind.i64.wrap (Int.tdiv ((n1 : Nat) : Int) 2)) + 1) : Int) ∧ (IntKind.i64.wrap ((IntKind.i64.wrap (Int.tdiv ((n1 : Nat) : Int) 2))
    + 1) : Int) ≤ ((n13 : Nat) : Int) ∧ HCalls Tryz.prog 81 [.slice (cutA A13 (((IntKind.i64.wrap ((IntKind.i64.wrap (Int.tdiv ((n1 : Nat) : Int) 2)) + 1) : Int).toNat) * 1) (decide (c13 = ((IntKind.i64.wrap
    ((IntKind.i64.wrap (Int.tdiv ((n1 : Nat) : Int) 2)) + 1) : Int).toNat)))) (n13 - ((IntKind.i64.wrap ((IntKind.i64.wrap (Int.tdiv ((n1 : Nat) : Int) 2)) + 1) : Int).toNat)) (c13 - ((IntKind.i64.wrap ((IntKind.i64.wrap
    (Int.tdiv ((n1 : Nat) : Int) 2)) + 1) : Int).toNat))] H11 fun v14 H15 => ∃ (A16 : Option Addr) (n16 c16 : Nat), v14 = .slice A16 n16 c16 ∧ storeF H15 g10 (0 + 1) [.slice A16 n16 c16] fun H17 => ∃ (A18 : Option Addr)
    (n18 c18 : Nat), cl H17 pn_b (pn_o + 1) = some (.slice A18 n18 c18) ∧ 0 ≤ (IntKind.i64.wrap ((IntKind.i64.wrap (Int.tdiv ((n1 : Nat) : Int) 2)) + 1) : Int) ∧ (IntKind.i64.wrap ((IntKind.i64.wrap (Int.tdiv ((n1 : Nat)
    : Int) 2)) + 1) : Int) ≤ ((c18 : Nat) : Int) ∧ storeF H17 pn_b (pn_o + 1) [.slice (cutA A18 (0 * 1) (decide (c18 = 0))) (((IntKind.i64.wrap ((IntKind.i64.wrap (Int.tdiv ((n1 : Nat) : Int) 2)) + 1) : Int).toNat) - 0)
    (c18 - 0)] fun H19 => J21 H19) (J21 H11)
noncomputable def fcx54 : Cx := cx 68 [(2, true), (5, true)] [] [] []
theorem f54.eq (pn_b pn_o : Nat) (H : Hp) (Q : Value → Hp → Prop) : f54 pn_b pn_o H Q = wFun fcx54 Tryz.f54 [.pointer (some ⟨pn_b, pn_o, none⟩)] H Q := by kernel_rfl
theorem f54.ok (pn_b pn_o : Nat) {H : Hp} {Q : Value → Hp → Prop} (h : f54 pn_b pn_o H Q) : HCalls Tryz.prog 54 [.pointer (some ⟨pn_b, pn_o, none⟩)] H Q := hcalls_of (cxOk _ _ _ _ _) Tryz.func54 (Eq.mp (f54.eq pn_b pn_o H Q) h)

/-- (*justiciar tree.node).tree -/
def f55 (pn_b pn_o : Nat) (pcols : Int) (H : Hp) (Q : Value → Hp → Prop) : Prop :=
  newF H 24 [.slice none 0 0, .int .i64 0, .int .i64 0] fun g1 H2 => storeF H2 g1 0 [.slice none 0 0, .int .i64 0, .int .i64 pcols] fun H3 => HCalls Tryz.prog 82 [.pointer (some ⟨pn_b, pn_o, none⟩), .pointer (some ⟨g1, 0,
    none⟩)] H3 fun v4 H5 => ∃ x6 : Int, v4 = .int .i64 x6 ∧ ∃ (A7 : Option Addr) (n7 c7 : Nat), cl H5 g1 0 = some (.slice A7 n7 c7) ∧ ∃ x8 : Int, cl H5 g1 (0 + 1) = some (.int .i64 x8) ∧ ∃ x9 : Int, cl H5 g1 ((0 + 1) + 1)
    = some (.int .i64 x9) ∧ Q (.agg #[.slice A7 n7 c7, .int .i64 x8, .int .i64 x9]) H5
noncomputable def fcx55 : Cx := cx 11 [(4, true)] [] [] []
theorem f55.eq (pn_b pn_o : Nat) (pcols : Int) (H : Hp) (Q : Value → Hp → Prop) : f55 pn_b pn_o pcols H Q = wFun fcx55 Tryz.f55 [.pointer (some ⟨pn_b, pn_o, none⟩), .int .i64 pcols] H Q := by kernel_rfl
theorem f55.ok (pn_b pn_o : Nat) (pcols : Int) {H : Hp} {Q : Value → Hp → Prop} (h : f55 pn_b pn_o pcols H Q) : HCalls Tryz.prog 55 [.pointer (some ⟨pn_b, pn_o, none⟩), .int .i64 pcols] H Q := hcalls_of (cxOk _ _ _ _ _) Tryz.func55 (Eq.mp (f55.eq pn_b pn_o pcols H Q) h)

/-- (*justiciar tree.node).remove -/
def f58 (pn_b pn_o : Nat) (pe_0_A : Option Addr) (pe_0_n pe_0_c : Nat) (pe_1 : Int) (H : Hp) (Q : Value → Hp → Prop) : Prop :=
  HCalls Tryz.prog 78 [.pointer (some ⟨pn_b, pn_o, none⟩), .agg #[.slice pe_0_A pe_0_n pe_0_c, .int .i64 pe_1]] H fun v1 H2 => ∃ x3 : Int, ∃ x4 : Bool, v1 = .tuple #[.int .i64 x3, .bool x4] ∧ jn (fun (j6 : Bool) => cnd j6
    (∃ (A8 : Option Addr) (n8 c8 : Nat), cl H2 pn_b (pn_o + 0) = some (.slice A8 n8 c8) ∧ HCalls Tryz.prog 83 [.slice A8 n8 c8, .int .i64 x3, .int .i64 (IntKind.i64.wrap (x3 + 1))] H2 fun v9 H10 => ∃ (A11 : Option Addr)
    (n11 c11 : Nat), v9 = .slice A11 n11 c11 ∧ storeF H10 pn_b (pn_o + 0) [.slice A11 n11 c11] fun H12 => Q (.tuple #[]) H12) (cnd x4 (∃ (A13 : Option Addr) (n13 c13 : Nat), cl H2 pn_b (pn_o + 1) = some (.slice A13 n13
    c13) ∧ 0 ≤ (IntKind.i64.wrap (x3 + 1) : Int) ∧ (IntKind.i64.wrap (x3 + 1) : Int) < ((n13 : Nat) : Int) ∧ onPtr A13 fun b14 o14 => ∃ p15 : Option Addr, cl H2 b14 (o14 + (IntKind.i64.wrap (x3 + 1) : Int).toNat * 1) =
    some (.pointer p15) ∧ HCalls Tryz.prog 84 [.pointer p15] H2 fun v16 H17 => ∃ (A18 : Option Addr) (n18 c18 : Nat), ∃ x19 : Int, v16 = .agg #[.slice A18 n18 c18, .int .i64 x19] ∧ ∃ (A20 : Option Addr) (n20 c20 : Nat),
    cl H17 pn_b (pn_o + 0) = some (.slice A20 n20 c20) ∧ 0 ≤ (x3 : Int) ∧ (x3 : Int) < ((n20 : Nat) : Int) ∧ onPtr A20 fun b21 o21 => storeF H17 b21 (o21 + (x3 : Int).toNat * 2) [.slice A18 n18 c18, .int .i64 x19] fun H22
    => ∃ (A23 : Option Addr) (n23 c23 : Nat), cl H22 pn_b (pn_o + 1) = some (.slice A23 n23 c23) ∧ 0 ≤ (IntKind.i64.wrap (x3 + 1) : Int) ∧ (IntKind.i64.wrap (x3 + 1) : Int) < ((n23 : Nat) : Int) ∧ onPtr A23 fun b24 o24 =>
    ∃ p25 : Option Addr, cl H22 b24 (o24 + (IntKind.i64.wrap (x3 + 1) : Int).toNat * 1) = some (.pointer p25) ∧ HCalls Tryz.prog 58 [.pointer p25, .agg #[.slice A18 n18 c18, .int .i64 x19]] H22 fun v26 H27 => v26 = .tuple
    #[] ∧ HCalls Tryz.prog 85 [.pointer (some ⟨pn_b, pn_o, none⟩), .int .i64 (IntKind.i64.wrap (x3 + 1))] H27 fun v28 H29 => v28 = .tuple #[] ∧ Q (.tuple #[]) H29) (∃ (A30 : Option Addr) (n30 c30 : Nat), cl H2 pn_b (pn_o
    + 1) = some (.slice A30 n30 c30) ∧ cnd (decide ((((n30 : Nat) : Int) : Int) > 0)) (∃ (A31 : Option Addr) (n31 c31 : Nat), cl H2 pn_b (pn_o + 1) = some (.slice A31 n31 c31) ∧ 0 ≤ (x3 : Int) ∧ (x3 : Int) < ((n31 : Nat)
    : Int) ∧ onPtr A31 fun b32 o32 => ∃ p33 : Option Addr, cl H2 b32 (o32 + (x3 : Int).toNat * 1) = some (.pointer p33) ∧ HCalls Tryz.prog 58 [.pointer p33, .agg #[.slice pe_0_A pe_0_n pe_0_c, .int .i64 pe_1]] H2 fun v34
    H35 => v34 = .tuple #[] ∧ HCalls Tryz.prog 85 [.pointer (some ⟨pn_b, pn_o, none⟩), .int .i64 x3] H35 fun v36 H37 => v36 = .tuple #[] ∧ Q (.tuple #[]) H37) (Q (.tuple #[]) H2)))) fun J7 => ∃ (A5 : Option Addr) (n5 c5 :
    Nat), cl H2 pn_b (pn_o + 1) = some (.slice A5 n5 c5) ∧ cnd ((((n5 : Nat) : Int) : Int) == 0) (J7 x4) (J7 false)
noncomputable def fcx58 : Cx := cx 85 [(3, true), (6, true)] [] [(6, (.look 0 (.look 1 (.look 2 (.look 3 (.look 4 (.look 5 (.look 6 (.act 7 .done .done))))))))), (7, (.look 0 (.look 1 (.look 2 (.look 3 (.look 4 (.look 5 (.look 6 (.look 7 (.look 8 (.act 9 .done .done))))))))))), (10, (.look 0 (.look 1 (.look 2 (.look 3 (.look 4 (.look 5 (.look 6 (.look 7 (.act 8 .done .done))))))))))] []
theorem f58.eq (pn_b pn_o : Nat) (pe_0_A : Option Addr) (pe_0_n pe_0_c : Nat) (pe_1 : Int) (H : Hp) (Q : Value → Hp → Prop) : f58 pn_b pn_o pe_0_A pe_0_n pe_0_c pe_1 H Q = wFun fcx58 Tryz.f58 [.pointer (some ⟨pn_b, pn_o, none⟩), .agg #[.slice pe_0_A pe_0_n pe_0_c, .int .i64 pe_1]] H Q := by kernel_rfl
theorem f58.ok (pn_b pn_o : Nat) (pe_0_A : Option Addr) (pe_0_n pe_0_c : Nat) (pe_1 : Int) {H : Hp} {Q : Value → Hp → Prop} (h : f58 pn_b pn_o pe_0_A pe_0_n pe_0_c pe_1 H Q) : HCalls Tryz.prog 58 [.pointer (some ⟨pn_b, pn_o, none⟩), .agg #[.slice pe_0_A pe_0_n pe_0_c, .int .i64 pe_1]] H Q := hcalls_of (cxOk _ _ _ _ _) Tryz.func58 (Eq.mp (f58.eq pn_b pn_o pe_0_A pe_0_n pe_0_c pe_1 H Q) h)

/-- slices.ContainsFunc[[]justiciar api.Entry,justiciar api.Entry] -/
def f60 (ps_A : Option Addr) (ps_n ps_c : Nat) (pf_f : FuncId) (pf_a pf_c : Array Value) (H : Hp) (Q : Value → Hp → Prop) : Prop :=
  HCalls Tryz.prog 86 [.slice ps_A ps_n ps_c, .func (.func pf_f) pf_a pf_c] H fun v1 H2 => ∃ x3 : Int, v1 = .int .i64 x3 ∧ Q (.bool (decide ((x3 : Int) ≥ 0))) H2
noncomputable def fcx60 : Cx := cx 9 [] [] [] []
theorem f60.eq (ps_A : Option Addr) (ps_n ps_c : Nat) (pf_f : FuncId) (pf_a pf_c : Array Value) (H : Hp) (Q : Value → Hp → Prop) : f60 ps_A ps_n ps_c pf_f pf_a pf_c H Q = wFun fcx60 Tryz.f60 [.slice ps_A ps_n ps_c, .func (.func pf_f) pf_a pf_c] H Q := by kernel_rfl
theorem f60.ok (ps_A : Option Addr) (ps_n ps_c : Nat) (pf_f : FuncId) (pf_a pf_c : Array Value) {H : Hp} {Q : Value → Hp → Prop} (h : f60 ps_A ps_n ps_c pf_f pf_a pf_c H Q) : HCalls Tryz.prog 60 [.slice ps_A ps_n ps_c, .func (.func pf_f) pf_a pf_c] H Q := hcalls_of (cxOk _ _ _ _ _) Tryz.func60 (Eq.mp (f60.eq ps_A ps_n ps_c pf_f pf_a pf_c H Q) h)

/-- justiciar tree.Make$1 -/
def f61 (pe_0_A : Option Addr) (pe_0_n pe_0_c : Nat) (pe_1 : Int) (fra_b fra_o : Nat) (H : Hp) (Q : Value → Hp → Prop) : Prop :=
  ∃ x1 : Int, cl H fra_b fra_o = some (.int .i64 x1) ∧ HCalls Tryz.prog 49 [.agg #[.slice pe_0_A pe_0_n pe_0_c, .int .i64 pe_1], .int .i64 x1] H fun v2 H3 => ∃ x4 : Bool, v2 = .bool x4 ∧ Q (.bool (!x4)) H3
noncomputable def fcx61 : Cx := cx 8 [(2, true)] [] [] []
theorem f61.eq (pe_0_A : Option Addr) (pe_0_n pe_0_c : Nat) (pe_1 : Int) (fra_b fra_o : Nat) (H : Hp) (Q : Value → Hp → Prop) : f61 pe_0_A pe_0_n pe_0_c pe_1 fra_b fra_o H Q = wFun fcx61 Tryz.f61 [.agg #[.slice pe_0_A pe_0_n pe_0_c, .int .i64 pe_1], .pointer (some ⟨fra_b, fra_o, none⟩)] H Q := by kernel_rfl
theorem f61.ok (pe_0_A : Option Addr) (pe_0_n pe_0_c : Nat) (pe_1 : Int) (fra_b fra_o : Nat) {H : Hp} {Q : Value → Hp → Prop} (h : f61 pe_0_A pe_0_n pe_0_c pe_1 fra_b fra_o H Q) : HCalls Tryz.prog 61 [.agg #[.slice pe_0_A pe_0_n pe_0_c, .int .i64 pe_1], .pointer (some ⟨fra_b, fra_o, none⟩)] H Q := hcalls_of (cxOk _ _ _ _ _) Tryz.func61 (Eq.mp (f61.eq pe_0_A pe_0_n pe_0_c pe_1 fra_b fra_o H Q) h)

/-- slices.Clone[[]justiciar api.Entry,justiciar api.Entry] -/
def f62 (ps_A : Option Addr) (ps_n ps_c : Nat) (H : Hp) (Q : Value → Hp → Prop) : Prop :=
  cnd ps_A.isNone (Q (.slice none 0 0) H) (newF H 46 [] fun g1 H2 => appendF H2 46 2 32 (some ⟨g1, 0, none⟩) 0 0 ps_A ps_n fun A3 n3 c3 H4 => Q (.slice A3 n3 c3) H4)
noncomputable def fcx62 : Cx := cx 8 [] [] [] []
theorem f62.eq (ps_A : Option Addr) (ps_n ps_c : Nat) (H : Hp) (Q : Value → Hp → Prop) : f62 ps_A ps_n ps_c H Q = wFun fcx62 Tryz.f62 [.slice ps_A ps_n ps_c] H Q := by kernel_rfl
theorem f62.ok (ps_A : Option Addr) (ps_n ps_c : Nat) {H : Hp} {Q : Value → Hp → Prop} (h : f62 ps_A ps_n ps_c H Q) : HCalls Tryz.prog 62 [.slice ps_A ps_n ps_c] H Q := hcalls_of (cxOk _ _ _ _ _) Tryz.func62 (Eq.mp (f62.eq ps_A ps_n ps_c H Q) h)

/-- (*justiciar tree.node).place -/
def f78 (pn_b pn_o : Nat) (pe_0_A : Option Addr) (pe_0_n pe_0_c : Nat) (pe_1 : Int) (H : Hp) (Q : Value → Hp → Prop) : Prop :=
  ∃ (A1 : Option Addr) (n1 c1 : Nat), cl H pn_b (pn_o + 0) = some (.slice A1 n1 c1) ∧ HCalls Tryz.prog 50 [.slice A1 n1 c1, .agg #[.slice pe_0_A pe_0_n pe_0_c, .int .i64 pe_1], .func (.func 51) #[] #[]] H fun v2 H3 => ∃ x4
    : Int, ∃ x5 : Bool, v2 = .tuple #[.int .i64 x4, .bool x5] ∧ Q (.tuple #[.int .i64 x4, .bool x5]) H3
noncomputable def fcx78 : Cx := cx 14 [(3, true)] [] [(1, (.look 0 (.look 1 (.look 2 (.look 3 (.look 4 (.act 5 (.look 6 (.look 7 (.act 8 (.act 9 .done .done) .done))) .done)))))))] []
theorem f78.eq (pn_b pn_o : Nat) (pe_0_A : Option Addr) (pe_0_n pe_0_c : Nat) (pe_1 : Int) (H : Hp) (Q : Value → Hp → Prop) : f78 pn_b pn_o pe_0_A pe_0_n pe_0_c pe_1 H Q = wFun fcx78 Tryz.f78 [.pointer (some ⟨pn_b, pn_o, none⟩), .agg #[.slice pe_0_A pe_0_n pe_0_c, .int .i64 pe_1]] H Q := by kernel_rfl
theorem f78.ok (pn_b pn_o : Nat) (pe_0_A : Option Addr) (pe_0_n pe_0_c : Nat) (pe_1 : Int) {H : Hp} {Q : Value → Hp → Prop} (h : f78 pn_b pn_o pe_0_A pe_0_n pe_0_c pe_1 H Q) : HCalls Tryz.prog 78 [.pointer (some ⟨pn_b, pn_o, none⟩), .agg #[.slice pe_0_A pe_0_n pe_0_c, .int .i64 pe_1]] H Q := hcalls_of (cxOk _ _ _ _ _) Tryz.func78 (Eq.mp (f78.eq pn_b pn_o pe_0_A pe_0_n pe_0_c pe_1 H Q) h)

/-- slices.Insert[[]justiciar api.Entry,justiciar api.Entry] -/
def f79 (ps_A : Option Addr) (ps_n ps_c : Nat) (pi : Int) (pv_A : Option Addr) (pv_n pv_c : Nat) (H : Hp) (Q : Value → Hp → Prop) : Prop :=
  0 ≤ (pi : Int) ∧ (pi : Int) ≤ ((ps_n : Nat) : Int) ∧ cnd ((((pv_n : Nat) : Int) : Int) == 0) (Q (.slice ps_A ps_n ps_c) H) (cnd ((pi : Int) == ((ps_n : Nat) : Int)) (appendF H 46 2 32 ps_A ps_n ps_c pv_A pv_n fun A1 n1 c1
    H2 => Q (.slice A1 n1 c1) H2) (cnd (decide ((IntKind.i64.wrap (((ps_n : Nat) : Int) + ((pv_n : Nat) : Int)) : Int) > ((ps_c : Nat) : Int))) (0 ≤ (pi : Int) ∧ (pi : Int) ≤ ((ps_c : Nat) : Int) ∧ appendZF H 46 2 32
    [.slice none 0 0, .int .i64 0] (cutA ps_A (0 * 2) (decide (ps_c = 0))) (((pi : Int).toNat) - 0) (ps_c - 0) (IntKind.i64.wrap ((IntKind.i64.wrap (((ps_n : Nat) : Int) + ((pv_n : Nat) : Int))) - pi)) fun A3 n3 c3 H4 =>
    0 ≤ (pi : Int) ∧ (pi : Int) ≤ ((n3 : Nat) : Int) ∧ copyF H4 2 (cutA A3 (((pi : Int).toNat) * 2) (decide (c3 = ((pi : Int).toNat)))) (n3 - ((pi : Int).toNat)) pv_A pv_n fun H5 => 0 ≤ (IntKind.i64.wrap (pi + ((pv_n :
    Nat) : Int)) : Int) ∧ (IntKind.i64.wrap (pi + ((pv_n : Nat) : Int)) : Int) ≤ ((n3 : Nat) : Int) ∧ 0 ≤ (pi : Int) ∧ (pi : Int) ≤ ((ps_n : Nat) : Int) ∧ copyF H5 2 (cutA A3 (((IntKind.i64.wrap (pi + ((pv_n : Nat) :
    Int)) : Int).toNat) * 2) (decide (c3 = ((IntKind.i64.wrap (pi + ((pv_n : Nat) : Int)) : Int).toNat)))) (n3 - ((IntKind.i64.wrap (pi + ((pv_n : Nat) : Int)) : Int).toNat)) (cutA ps_A (((pi : Int).toNat) * 2) (decide
    (ps_c = ((pi : Int).toNat)))) (ps_n - ((pi : Int).toNat)) fun H6 => Q (.slice A3 n3 c3) H6) (0 ≤ (IntKind.i64.wrap (((ps_n : Nat) : Int) + ((pv_n : Nat) : Int)) : Int) ∧ (IntKind.i64.wrap (((ps_n : Nat) : Int) +
    ((pv_n : Nat) : Int)) : Int) ≤ ((ps_c : Nat) : Int) ∧ 0 ≤ (IntKind.i64.wrap (pi + ((pv_n : Nat) : Int)) : Int) ∧ (IntKind.i64.wrap (pi + ((pv_n : Nat) : Int)) : Int) ≤ ((((IntKind.i64.wrap (((ps_n : Nat) : Int) +
    ((pv_n : Nat) : Int)) : Int).toNat) - 0 : Nat) : Int) ∧ apartF H pv_A (cutA (cutA ps_A (0 * 2) (decide (ps_c = 0))) (((IntKind.i64.wrap (pi + ((pv_n : Nat) : Int)) : Int).toNat) * 2) (decide ((ps_c - 0) =
    ((IntKind.i64.wrap (pi + ((pv_n : Nat) : Int)) : Int).toNat)))) (0 ≤ (IntKind.i64.wrap (pi + ((pv_n : Nat) : Int)) : Int) ∧ (IntKind.i64.wrap (pi + ((pv_n : Nat) : Int)) : Int) ≤ ((((IntKind.i64.wrap (((ps_n : Nat) :
    Int) + ((pv_n : Nat) : Int)) : Int).toNat) - 0 : Nat) : Int) ∧ 0 ≤ (pi : Int) ∧ (pi : Int) ≤ ((((IntKind.i64.wrap (((ps_n : Nat) : Int) + ((pv_n : Nat) : Int)) : Int).toNat) - 0 : Nat) : Int) ∧ copyF H 2 (cutA (cutA
    ps_A (0 * 2) (decide (ps_c = 0))) (((IntKind.i64.wrap (pi + ((pv_n : Nat) : Int)) : Int).toNat) * 2) (decide ((ps_c - 0) = ((IntKind.i64.wrap (pi + ((pv_n : Nat) : Int)) : Int).toNat)))) ((((IntKind.i64.wrap (((ps_n :
    Nat) : Int) + ((pv_n : Nat) : Int)) : Int).toNat) - 0) - ((IntKind.i64.wrap (pi + ((pv_n : Nat) : Int)) : Int).toNat)) (cutA (cutA ps_A (0 * 2) (decide (ps_c = 0))) (((pi : Int).toNat) * 2) (decide ((ps_c - 0) = ((pi
    : Int).toNat)))) ((((IntKind.i64.wrap (((ps_n : Nat) : Int) + ((pv_n : Nat) : Int)) : Int).toNat) - 0) - ((pi : Int).toNat)) fun H7 => 0 ≤ (pi : Int) ∧ (pi : Int) ≤ ((((IntKind.i64.wrap (((ps_n : Nat) : Int) + ((pv_n
    : Nat) : Int)) : Int).toNat) - 0 : Nat) : Int) ∧ copyF H7 2 (cutA (cutA ps_A (0 * 2) (decide (ps_c = 0))) (((pi : Int).toNat) * 2) (decide ((ps_c - 0) = ((pi : Int).toNat)))) ((((IntKind.i64.wrap (((ps_n : Nat) : Int)
    + ((pv_n : Nat) : Int)) : Int).toNat) - 0) - ((pi : Int).toNat)) pv_A pv_n fun H8 => Q (.slice (cutA ps_A (0 * 2) (decide (ps_c = 0))) (((IntKind.i64.wrap (((ps_n : Nat) : Int) + ((pv_n : Nat) : Int)) : Int).toNat) -
    0) (ps_c - 0)) H8))))
noncomputable def fcx79 : Cx := cx 95 [] [] [(11, (.look 0 (.look 1 (.look 2 (.look 3 (.look 4 (.look 5 (.look 6 (.look 7 (.act 8 .done .done)))))))))), (15, (.look 0 (.look 1 (.look 2 (.look 3 (.look 4 (.look 5 (.look 6 (.look 7 (.act 8 .done .done))))))))))] []
theorem f79.eq (ps_A : Option Addr) (ps_n ps_c : Nat) (pi : Int) (pv_A : Option Addr) (pv_n pv_c : Nat) (H : Hp) (Q : Value → Hp → Prop) : f79 ps_A ps_n ps_c pi pv_A pv_n pv_c H Q = wFun fcx79 Tryz.f79 [.slice ps_A ps_n ps_c, .int .i64 pi, .slice pv_A pv_n pv_c] H Q := by kernel_rfl
theorem f79.ok (ps_A : Option Addr) (ps_n ps_c : Nat) (pi : Int) (pv_A : Option Addr) (pv_n pv_c : Nat) {H : Hp} {Q : Value → Hp → Prop} (h : f79 ps_A ps_n ps_c pi pv_A pv_n pv_c H Q) : HCalls Tryz.prog 79 [.slice ps_A ps_n ps_c, .int .i64 pi, .slice pv_A pv_n pv_c] H Q := hcalls_of (cxOk _ _ _ _ _) Tryz.func79 (Eq.mp (f79.eq ps_A ps_n ps_c pi pv_A pv_n pv_c H Q) h)

/-- slices.Insert[[]*justiciar tree.node,*justiciar tree.node] -/
def f80 (ps_A : Option Addr) (ps_n ps_c : Nat) (pi : Int) (pv_A : Option Addr) (pv_n pv_c : Nat) (H : Hp) (Q : Value → Hp → Prop) : Prop :=
  0 ≤ (pi : Int) ∧ (pi : Int) ≤ ((ps_n : Nat) : Int) ∧ cnd ((((pv_n : Nat) : Int) : Int) == 0) (Q (.slice ps_A ps_n ps_c) H) (cnd ((pi : Int) == ((ps_n : Nat) : Int)) (appendF H 86 1 8 ps_A ps_n ps_c pv_A pv_n fun A1 n1 c1
    H2 => Q (.slice A1 n1 c1) H2) (cnd (decide ((IntKind.i64.wrap (((ps_n : Nat) : Int) + ((pv_n : Nat) : Int)) : Int) > ((ps_c : Nat) : Int))) (0 ≤ (pi : Int) ∧ (pi : Int) ≤ ((ps_c : Nat) : Int) ∧ appendZF H 86 1 8
    [.pointer none] (cutA ps_A (0 * 1) (decide (ps_c = 0))) (((pi : Int).toNat) - 0) (ps_c - 0) (IntKind.i64.wrap ((IntKind.i64.wrap (((ps_n : Nat) : Int) + ((pv_n : Nat) : Int))) - pi)) fun A3 n3 c3 H4 => 0 ≤ (pi : Int)
    ∧ (pi : Int) ≤ ((n3 : Nat) : Int) ∧ copyF H4 1 (cutA A3 (((pi : Int).toNat) * 1) (decide (c3 = ((pi : Int).toNat)))) (n3 - ((pi : Int).toNat)) pv_A pv_n fun H5 => 0 ≤ (IntKind.i64.wrap (pi + ((pv_n : Nat) : Int)) :
    Int) ∧ (IntKind.i64.wrap (pi + ((pv_n : Nat) : Int)) : Int) ≤ ((n3 : Nat) : Int) ∧ 0 ≤ (pi : Int) ∧ (pi : Int) ≤ ((ps_n : Nat) : Int) ∧ copyF H5 1 (cutA A3 (((IntKind.i64.wrap (pi + ((pv_n : Nat) : Int)) : Int).toNat)
    * 1) (decide (c3 = ((IntKind.i64.wrap (pi + ((pv_n : Nat) : Int)) : Int).toNat)))) (n3 - ((IntKind.i64.wrap (pi + ((pv_n : Nat) : Int)) : Int).toNat)) (cutA ps_A (((pi : Int).toNat) * 1) (decide (ps_c = ((pi :
    Int).toNat)))) (ps_n - ((pi : Int).toNat)) fun H6 => Q (.slice A3 n3 c3) H6) (0 ≤ (IntKind.i64.wrap (((ps_n : Nat) : Int) + ((pv_n : Nat) : Int)) : Int) ∧ (IntKind.i64.wrap (((ps_n : Nat) : Int) + ((pv_n : Nat) :
    Int)) : Int) ≤ ((ps_c : Nat) : Int) ∧ 0 ≤ (IntKind.i64.wrap (pi + ((pv_n : Nat) : Int)) : Int) ∧ (IntKind.i64.wrap (pi + ((pv_n : Nat) : Int)) : Int) ≤ ((((IntKind.i64.wrap (((ps_n : Nat) : Int) + ((pv_n : Nat) :
    Int)) : Int).toNat) - 0 : Nat) : Int) ∧ apartF H pv_A (cutA (cutA ps_A (0 * 1) (decide (ps_c = 0))) (((IntKind.i64.wrap (pi + ((pv_n : Nat) : Int)) : Int).toNat) * 1) (decide ((ps_c - 0) = ((IntKind.i64.wrap (pi +
    ((pv_n : Nat) : Int)) : Int).toNat)))) (0 ≤ (IntKind.i64.wrap (pi + ((pv_n : Nat) : Int)) : Int) ∧ (IntKind.i64.wrap (pi + ((pv_n : Nat) : Int)) : Int) ≤ ((((IntKind.i64.wrap (((ps_n : Nat) : Int) + ((pv_n : Nat) :
    Int)) : Int).toNat) - 0 : Nat) : Int) ∧ 0 ≤ (pi : Int) ∧ (pi : Int) ≤ ((((IntKind.i64.wrap (((ps_n : Nat) : Int) + ((pv_n : Nat) : Int)) : Int).toNat) - 0 : Nat) : Int) ∧ copyF H 1 (cutA (cutA ps_A (0 * 1) (decide
    (ps_c = 0))) (((IntKind.i64.wrap (pi + ((pv_n : Nat) : Int)) : Int).toNat) * 1) (decide ((ps_c - 0) = ((IntKind.i64.wrap (pi + ((pv_n : Nat) : Int)) : Int).toNat)))) ((((IntKind.i64.wrap (((ps_n : Nat) : Int) + ((pv_n
    : Nat) : Int)) : Int).toNat) - 0) - ((IntKind.i64.wrap (pi + ((pv_n : Nat) : Int)) : Int).toNat)) (cutA (cutA ps_A (0 * 1) (decide (ps_c = 0))) (((pi : Int).toNat) * 1) (decide ((ps_c - 0) = ((pi : Int).toNat))))
    ((((IntKind.i64.wrap (((ps_n : Nat) : Int) + ((pv_n : Nat) : Int)) : Int).toNat) - 0) - ((pi : Int).toNat)) fun H7 => 0 ≤ (pi : Int) ∧ (pi : Int) ≤ ((((IntKind.i64.wrap (((ps_n : Nat) : Int) + ((pv_n : Nat) : Int)) :
    Int).toNat) - 0 : Nat) : Int) ∧ copyF H7 1 (cutA (cutA ps_A (0 * 1) (decide (ps_c = 0))) (((pi : Int).toNat) * 1) (decide ((ps_c - 0) = ((pi : Int).toNat)))) ((((IntKind.i64.wrap (((ps_n : Nat) : Int) + ((pv_n : Nat)
    : Int)) : Int).toNat) - 0) - ((pi : Int).toNat)) pv_A pv_n fun H8 => Q (.slice (cutA ps_A (0 * 1) (decide (ps_c = 0))) (((IntKind.i64.wrap (((ps_n : Nat) : Int) + ((pv_n : Nat) : Int)) : Int).toNat) - 0) (ps_c - 0))
    H8))))
noncomputable def fcx80 : Cx := cx 95 [] [] [(11, (.look 0 (.look 1 (.look 2 (.look 3 (.look 4 (.look 5 (.look 6 (.look 7 (.act 8 .done .done)))))))))), (15, (.look 0 (.look 1 (.look 2 (.look 3 (.look 4 (.look 5 (.look 6 (.look 7 (.act 8 .done .done))))))))))] []
theorem f80.eq (ps_A : Option Addr) (ps_n ps_c : Nat) (pi : Int) (pv_A : Option Addr) (pv_n pv_c : Nat) (H : Hp) (Q : Value → Hp → Prop) : f80 ps_A ps_n ps_c pi pv_A pv_n pv_c H Q = wFun fcx80 Tryz.f80 [.slice ps_A ps_n ps_c, .int .i64 pi, .slice pv_A pv_n pv_c] H Q := by kernel_rfl
theorem f80.ok (ps_A : Option Addr) (ps_n ps_c : Nat) (pi : Int) (pv_A : Option Addr) (pv_n pv_c : Nat) {H : Hp} {Q : Value → Hp → Prop} (h : f80 ps_A ps_n ps_c pi pv_A pv_n pv_c H Q) : HCalls Tryz.prog 80 [.slice ps_A ps_n ps_c, .int .i64 pi, .slice pv_A pv_n pv_c] H Q := hcalls_of (cxOk _ _ _ _ _) Tryz.func80 (Eq.mp (f80.eq ps_A ps_n ps_c pi pv_A pv_n pv_c H Q) h)

/-- slices.Clone[[]*justiciar tree.node,*justiciar tree.node] -/
def f81 (ps_A : Option Addr) (ps_n ps_c : Nat) (H : Hp) (Q : Value → Hp → Prop) : Prop :=
  cnd ps_A.isNone (Q (.slice none 0 0) H) (newF H 86 [] fun g1 H2 => appendF H2 86 1 8 (some ⟨g1, 0, none⟩) 0 0 ps_A ps_n fun A3 n3 c3 H4 => Q (.slice A3 n3 c3) H4)
noncomputable def fcx81 : Cx := cx 8 [] [] [] []
theorem f81.eq (ps_A : Option Addr) (ps_n ps_c : Nat) (H : Hp) (Q : Value → Hp → Prop) : f81 ps_A ps_n ps_c H Q = wFun fcx81 Tryz.f81 [.slice ps_A ps_n ps_c] H Q := by kernel_rfl
theorem f81.ok (ps_A : Option Addr) (ps_n ps_c : Nat) {H : Hp} {Q : Value → Hp → Prop} (h : f81 ps_A ps_n ps_c H Q) : HCalls Tryz.prog 81 [.slice ps_A ps_n ps_c] H Q := hcalls_of (cxOk _ _ _ _ _) Tryz.func81 (Eq.mp (f81.eq ps_A ps_n ps_c H Q) h)

/-- (*justiciar tree.node).flat -/
def f82 (pn_b pn_o : Nat) (pt_b pt_o : Nat) (H : Hp) (Q : Value → Hp → Prop) : Prop :=
  ∃ (A1 : Option Addr) (n1 c1 : Nat), cl H pt_b (pt_o + 0) = some (.slice A1 n1 c1) ∧ ∃ (A2 : Option Addr) (n2 c2 : Nat), cl H pt_b (pt_o + 0) = some (.slice A2 n2 c2) ∧ newF H 60 [.slice none 0 0, .slice none 0 0] fun g3
    H4 => appendF H4 60 2 48 A2 n2 c2 (some ⟨g3, 0, none⟩) 1 fun A5 n5 c5 H6 => storeF H6 pt_b (pt_o + 0) [.slice A5 n5 c5] fun H7 => ∃ (A8 : Option Addr) (n8 c8 : Nat), cl H7 pn_b (pn_o + 0) = some (.slice A8 n8 c8) ∧ ∃
    (A9 : Option Addr) (n9 c9 : Nat), cl H7 pn_b (pn_o + 1) = some (.slice A9 n9 c9) ∧ LoopF (σ := (Int × Unit) × (((Option Addr × Nat × Nat) × ((Option Addr × Nat × Nat) × Unit)) × Unit)) ((0, ()), (((A8, n8, c8),
    ((none, 0, 0), ())), ())) H7 fun s10 H11 next12 => cnd (decide ((s10.1.1 : Int) < ((n9 : Nat) : Int))) (0 ≤ (s10.1.1 : Int) ∧ (s10.1.1 : Int) < ((n9 : Nat) : Int) ∧ onPtr A9 fun b13 o13 => ∃ p14 : Option Addr, cl H11
    b13 (o13 + (s10.1.1 : Int).toNat * 1) = some (.pointer p14) ∧ HCalls Tryz.prog 82 [.pointer p14, .pointer (some ⟨pt_b, pt_o, none⟩)] H11 fun v15 H16 => ∃ x17 : Int, v15 = .int .i64 x17 ∧ newF H16 3 [.int .i64 x17] fun
    g18 H19 => appendF H19 3 1 8 s10.2.1.2.1.1 s10.2.1.2.1.2.1 s10.2.1.2.1.2.2 (some ⟨g18, 0, none⟩) 1 fun A20 n20 c20 H21 => KeepX [some (.v (.pointer (some ⟨pt_b, pt_o, none⟩))), some (.v (.int .i64 ((n1 : Nat) :
    Int))), some (.loc 6 0), some (.v (.slice A9 n9 c9)), some (.v (.int .i64 ((n9 : Nat) : Int)))] [] ∧ next12 ((IntKind.i64.wrap (s10.1.1 + 1), ()), (((s10.2.1.1.1, s10.2.1.1.2.1, s10.2.1.1.2.2), ((A20, n20, c20), ())),
    ())) H21) (∃ (A22 : Option Addr) (n22 c22 : Nat), cl H11 pt_b (pt_o + 0) = some (.slice A22 n22 c22) ∧ 0 ≤ (((n1 : Nat) : Int) : Int) ∧ (((n1 : Nat) : Int) : Int) < ((n22 : Nat) : Int) ∧ onPtr A22 fun b23 o23 =>
    storeF H11 b23 (o23 + (((n1 : Nat) : Int) : Int).toNat * 2) [.slice s10.2.1.1.1 s10.2.1.1.2.1 s10.2.1.1.2.2, .slice s10.2.1.2.1.1 s10.2.1.2.1.2.1 s10.2.1.2.1.2.2] fun H24 => Q (.int .i64 ((n1 : Nat) : Int)) H24)
noncomputable def fcx82 : Cx := cx 55 [(6, true)] [(5, ⟨[1, 5, 6, 32, 33], [], [(34, .int .i64)], [(6, [.slice, .slice])]⟩)] [(7, (.look 0 (.look 1 (.look 2 (.look 3 (.act 4 (.act 5 (.act 6 (.look 7 (.act 8 .done .done)) .done) .done) .done)))))), (9, (.look 0 (.look 1 (.look 2 (.look 3 (.look 4 (.look 5 (.look 6 (.act 7 .done .done)))))))))] []
theorem f82.eq (pn_b pn_o : Nat) (pt_b pt_o : Nat) (H : Hp) (Q : Value → Hp → Prop) : f82 pn_b pn_o pt_b pt_o H Q = wFun fcx82 Tryz.f82 [.pointer (some ⟨pn_b, pn_o, none⟩), .pointer (some ⟨pt_b, pt_o, none⟩)] H Q := by kernel_rfl
theorem f82.ok (pn_b pn_o : Nat) (pt_b pt_o : Nat) {H : Hp} {Q : Value → Hp → Prop} (h : f82 pn_b pn_o pt_b pt_o H Q) : HCalls Tryz.prog 82 [.pointer (some ⟨pn_b, pn_o, none⟩), .pointer (some ⟨pt_b, pt_o, none⟩)] H Q := hcalls_of (cxOk _ _ _ _ _) Tryz.func82 (Eq.mp (f82.eq pn_b pn_o pt_b pt_o H Q) h)

/-- slices.Delete[[]justiciar api.Entry,justiciar api.Entry] -/
def f83 (ps_A : Option Addr) (ps_n ps_c : Nat) (pi : Int) (pj : Int) (H : Hp) (Q : Value → Hp → Prop) : Prop :=
  0 ≤ (((ps_n : Nat) : Int) : Int) ∧ (((ps_n : Nat) : Int) : Int) ≤ ((ps_c : Nat) : Int) ∧ 0 ≤ (pj : Int) ∧ (pj : Int) ≤ (((ps_n : Nat) : Int) : Int) ∧ 0 ≤ (pi : Int) ∧ (pi : Int) ≤ (pj : Int) ∧ cnd ((pi : Int) == pj) (Q
    (.slice ps_A ps_n ps_c) H) (0 ≤ (pi : Int) ∧ (pi : Int) ≤ ((ps_c : Nat) : Int) ∧ 0 ≤ (pj : Int) ∧ (pj : Int) ≤ ((ps_n : Nat) : Int) ∧ appendF H 46 2 32 (cutA ps_A (0 * 2) (decide (ps_c = 0))) (((pi : Int).toNat) - 0)
    (ps_c - 0) (cutA ps_A (((pj : Int).toNat) * 2) (decide (ps_c = ((pj : Int).toNat)))) (ps_n - ((pj : Int).toNat)) fun A1 n1 c1 H2 => jn (fun (H5 : Hp) => Q (.slice A1 n1 c1) H5) fun J6 => 0 ≤ (((ps_n : Nat) : Int) :
    Int) ∧ (((ps_n : Nat) : Int) : Int) ≤ ((c1 : Nat) : Int) ∧ 0 ≤ (((n1 : Nat) : Int) : Int) ∧ (((n1 : Nat) : Int) : Int) ≤ (((ps_n : Nat) : Int) : Int) ∧ (((((ps_n : Nat) : Int) : Int).toNat) - ((((n1 : Nat) : Int) :
    Int).toNat) = 0 → J6 H2) ∧ (0 < ((((ps_n : Nat) : Int) : Int).toNat) - ((((n1 : Nat) : Int) : Int).toNat) → onPtr (cutA A1 (((((n1 : Nat) : Int) : Int).toNat) * 2) (decide (c1 = ((((n1 : Nat) : Int) : Int).toNat))))
    fun b3 o3 => storeF H2 b3 o3 (List.replicate (((((ps_n : Nat) : Int) : Int).toNat) - ((((n1 : Nat) : Int) : Int).toNat)) [.slice none 0 0, .int .i64 0]).flatten fun H4 => J6 H4))
noncomputable def fcx83 : Cx := cx 33 [] [] [(5, (.look 0 (.look 1 (.look 2 (.look 3 (.look 4 (.look 5 (.act 6 (.act 7 .done .done) .done))))))))] []
theorem f83.eq (ps_A : Option Addr) (ps_n ps_c : Nat) (pi : Int) (pj : Int) (H : Hp) (Q : Value → Hp → Prop) : f83 ps_A ps_n ps_c pi pj H Q = wFun fcx83 Tryz.f83 [.slice ps_A ps_n ps_c, .int .i64 pi, .int .i64 pj] H Q := by kernel_rfl
theorem f83.ok (ps_A : Option Addr) (ps_n ps_c : Nat) (pi : Int) (pj : Int) {H : Hp} {Q : Value → Hp → Prop} (h : f83 ps_A ps_n ps_c pi pj H Q) : HCalls Tryz.prog 83 [.slice ps_A ps_n ps_c, .int .i64 pi, .int .i64 pj] H Q := hcalls_of (cxOk _ _ _ _ _) Tryz.func83 (Eq.mp (f83.eq ps_A ps_n ps_c pi pj H Q) h)

/-- (*justiciar tree.node).first -/
def f84 (pn_b pn_o : Nat) (H : Hp) (Q : Value → Hp → Prop) : Prop :=
  ∃ (A1 : Option Addr) (n1 c1 : Nat), cl H pn_b (pn_o + 1) = some (.slice A1 n1 c1) ∧ cnd (decide ((((n1 : Nat) : Int) : Int) > 0)) (∃ (A2 : Option Addr) (n2 c2 : Nat), cl H pn_b (pn_o + 1) = some (.slice A2 n2 c2) ∧ 0 ≤ (0
    : Int) ∧ (0 : Int) < ((n2 : Nat) : Int) ∧ onPtr A2 fun b3 o3 => ∃ p4 : Option Addr, cl H b3 (o3 + (0 : Int).toNat * 1) = some (.pointer p4) ∧ HCalls Tryz.prog 84 [.pointer p4] H fun v5 H6 => ∃ (A7 : Option Addr) (n7
    c7 : Nat), ∃ x8 : Int, v5 = .agg #[.slice A7 n7 c7, .int .i64 x8] ∧ Q (.agg #[.slice A7 n7 c7, .int .i64 x8]) H6) (∃ (A9 : Option Addr) (n9 c9 : Nat), cl H pn_b (pn_o + 0) = some (.slice A9 n9 c9) ∧ 0 ≤ (0 : Int) ∧ (0
    : Int) < ((n9 : Nat) : Int) ∧ onPtr A9 fun b10 o10 => ∃ (A11 : Option Addr) (n11 c11 : Nat), cl H b10 (o10 + (0 : Int).toNat * 2) = some (.slice A11 n11 c11) ∧ ∃ x12 : Int, cl H b10 ((o10 + (0 : Int).toNat * 2) + 1) =
    some (.int .i64 x12) ∧ Q (.agg #[.slice A11 n11 c11, .int .i64 x12]) H)
noncomputable def fcx84 : Cx := cx 22 [(2, true)] [] [] []
theorem f84.eq (pn_b pn_o : Nat) (H : Hp) (Q : Value → Hp → Prop) : f84 pn_b pn_o H Q = wFun fcx84 Tryz.f84 [.pointer (some ⟨pn_b, pn_o, none⟩)] H Q := by kernel_rfl
theorem f84.ok (pn_b pn_o : Nat) {H : Hp} {Q : Value → Hp → Prop} (h : f84 pn_b pn_o H Q) : HCalls Tryz.prog 84 [.pointer (some ⟨pn_b, pn_o, none⟩)] H Q := hcalls_of (cxOk _ _ _ _ _) Tryz.func84 (Eq.mp (f84.eq pn_b pn_o H Q) h)

/-- (*justiciar tree.node).mend -/
def f85 (pn_b pn_o : Nat) (pi : Int) (H : Hp) (Q : Value → Hp → Prop) : Prop :=
  ∃ (A1 : Option Addr) (n1 c1 : Nat), cl H pn_b (pn_o + 1) = some (.slice A1 n1 c1) ∧ 0 ≤ (pi : Int) ∧ (pi : Int) < ((n1 : Nat) : Int) ∧ onPtr A1 fun b2 o2 => ∃ p3 : Option Addr, cl H b2 (o2 + (pi : Int).toNat * 1) = some
    (.pointer p3) ∧ onPtr p3 fun b4 o4 => ∃ (A5 : Option Addr) (n5 c5 : Nat), cl H b4 (o4 + 0) = some (.slice A5 n5 c5) ∧ cnd (decide ((((n5 : Nat) : Int) : Int) ≥ 3)) (Q (.tuple #[]) H) (jn (fun (j11 : Bool) => cnd j11
    (HCalls Tryz.prog 103 [.pointer (some ⟨pn_b, pn_o, none⟩), .int .i64 pi] H fun v13 H14 => v13 = .tuple #[] ∧ Q (.tuple #[]) H14) (jn (fun (j21 : Bool) => cnd j21 (HCalls Tryz.prog 104 [.pointer (some ⟨pn_b, pn_o,
    none⟩), .int .i64 pi] H fun v23 H24 => v23 = .tuple #[] ∧ Q (.tuple #[]) H24) (HCalls Tryz.prog 105 [.pointer (some ⟨pn_b, pn_o, none⟩), .int .i64 (if (0 : Int) > (IntKind.i64.wrap (pi - 1)) then 0 else
    IntKind.i64.wrap (pi - 1))] H fun v25 H26 => v25 = .tuple #[] ∧ Q (.tuple #[]) H26)) fun J22 => ∃ (A15 : Option Addr) (n15 c15 : Nat), cl H pn_b (pn_o + 1) = some (.slice A15 n15 c15) ∧ cnd (decide ((IntKind.i64.wrap
    (pi + 1) : Int) < ((n15 : Nat) : Int))) (∃ (A16 : Option Addr) (n16 c16 : Nat), cl H pn_b (pn_o + 1) = some (.slice A16 n16 c16) ∧ 0 ≤ (IntKind.i64.wrap (pi + 1) : Int) ∧ (IntKind.i64.wrap (pi + 1) : Int) < ((n16 :
    Nat) : Int) ∧ onPtr A16 fun b17 o17 => ∃ p18 : Option Addr, cl H b17 (o17 + (IntKind.i64.wrap (pi + 1) : Int).toNat * 1) = some (.pointer p18) ∧ onPtr p18 fun b19 o19 => ∃ (A20 : Option Addr) (n20 c20 : Nat), cl H b19
    (o19 + 0) = some (.slice A20 n20 c20) ∧ J22 (decide ((((n20 : Nat) : Int) : Int) > 3))) (J22 false))) fun J12 => cnd (decide ((pi : Int) > 0)) (∃ (A6 : Option Addr) (n6 c6 : Nat), cl H pn_b (pn_o + 1) = some (.slice
    A6 n6 c6) ∧ 0 ≤ (IntKind.i64.wrap (pi - 1) : Int) ∧ (IntKind.i64.wrap (pi - 1) : Int) < ((n6 : Nat) : Int) ∧ onPtr A6 fun b7 o7 => ∃ p8 : Option Addr, cl H b7 (o7 + (IntKind.i64.wrap (pi - 1) : Int).toNat * 1) = some
    (.pointer p8) ∧ onPtr p8 fun b9 o9 => ∃ (A10 : Option Addr) (n10 c10 : Nat), cl H b9 (o9 + 0) = some (.slice A10 n10 c10) ∧ J12 (decide ((((n10 : Nat) : Int) : Int) > 3))) (J12 false))
noncomputable def fcx85 : Cx := cx 69 [] [] [] []
theorem f85.eq (pn_b pn_o : Nat) (pi : Int) (H : Hp) (Q : Value → Hp → Prop) : f85 pn_b pn_o pi H Q = wFun fcx85 Tryz.f85 [.pointer (some ⟨pn_b, pn_o, none⟩), .int .i64 pi] H Q := by kernel_rfl
theorem f85.ok (pn_b pn_o : Nat) (pi : Int) {H : Hp} {Q : Value → Hp → Prop} (h : f85 pn_b pn_o pi H Q) : HCalls Tryz.prog 85 [.pointer (some ⟨pn_b, pn_o, none⟩), .int .i64 pi] H Q := hcalls_of (cxOk _ _ _ _ _) Tryz.func85 (Eq.mp (f85.eq pn_b pn_o pi H Q) h)

/-- slices.IndexFunc[[]justiciar api.Entry,justiciar api.Entry] -/
def f86 (ps_A : Option Addr) (ps_n ps_c : Nat) (pf_f : FuncId) (pf_a pf_c : Array Value) (H : Hp) (Q : Value → Hp → Prop) : Prop :=
  LoopF (σ := (Int × Unit) × Unit) ((0, ()), ()) H fun s1 H2 next3 => cnd (decide ((s1.1.1 : Int) < ((ps_n : Nat) : Int))) (0 ≤ (s1.1.1 : Int) ∧ (s1.1.1 : Int) < ((ps_n : Nat) : Int) ∧ onPtr ps_A fun b4 o4 => ∃ (A5 : Option
    Addr) (n5 c5 : Nat), cl H2 b4 (o4 + (s1.1.1 : Int).toNat * 2) = some (.slice A5 n5 c5) ∧ ∃ x6 : Int, cl H2 b4 ((o4 + (s1.1.1 : Int).toNat * 2) + 1) = some (.int .i64 x6) ∧ FnOk Tryz.prog pf_f ∧ HCalls Tryz.prog pf_f
    (pf_a.toList ++ [.agg #[.slice A5 n5 c5, .int .i64 x6]] ++ pf_c.toList) H2 fun v7 H8 => ∃ x9 : Bool, v7 = .bool x9 ∧ cnd x9 (Q (.int .i64 s1.1.1) H8) (KeepX [some (.v (.slice ps_A ps_n ps_c)), some (.v (.func (.func
    pf_f) pf_a pf_c)), some (.v (.int .i64 ((ps_n : Nat) : Int)))] [] ∧ next3 ((IntKind.i64.wrap (s1.1.1 + 1), ()), ()) H8)) (Q (.int .i64 (-1)) H2)
noncomputable def fcx86 : Cx := cx 19 [] [(2, ⟨[0, 1, 7], [], [(8, .int .i64)], []⟩)] [] []
theorem f86.eq (ps_A : Option Addr) (ps_n ps_c : Nat) (pf_f : FuncId) (pf_a pf_c : Array Value) (H : Hp) (Q : Value → Hp → Prop) : f86 ps_A ps_n ps_c pf_f pf_a pf_c H Q = wFun fcx86 Tryz.f86 [.slice ps_A ps_n ps_c, .func (.func pf_f) pf_a pf_c] H Q := by kernel_rfl
theorem f86.ok (ps_A : Option Addr) (ps_n ps_c : Nat) (pf_f : FuncId) (pf_a pf_c : Array Value) {H : Hp} {Q : Value → Hp → Prop} (h : f86 ps_A ps_n ps_c pf_f pf_a pf_c H Q) : HCalls Tryz.prog 86 [.slice ps_A ps_n ps_c, .func (.func pf_f) pf_a pf_c] H Q := hcalls_of (cxOk _ _ _ _ _) Tryz.func86 (Eq.mp (f86.eq ps_A ps_n ps_c pf_f pf_a pf_c H Q) h)

/-- (*justiciar tree.node).fromLeft -/
def f103 (pn_b pn_o : Nat) (pi : Int) (H : Hp) (Q : Value → Hp → Prop) : Prop :=
  ∃ (A1 : Option Addr) (n1 c1 : Nat), cl H pn_b (pn_o + 1) = some (.slice A1 n1 c1) ∧ 0 ≤ (IntKind.i64.wrap (pi - 1) : Int) ∧ (IntKind.i64.wrap (pi - 1) : Int) < ((n1 : Nat) : Int) ∧ onPtr A1 fun b2 o2 => ∃ p3 : Option
    Addr, cl H b2 (o2 + (IntKind.i64.wrap (pi - 1) : Int).toNat * 1) = some (.pointer p3) ∧ ∃ (A4 : Option Addr) (n4 c4 : Nat), cl H pn_b (pn_o + 1) = some (.slice A4 n4 c4) ∧ 0 ≤ (pi : Int) ∧ (pi : Int) < ((n4 : Nat) :
    Int) ∧ onPtr A4 fun b5 o5 => ∃ p6 : Option Addr, cl H b5 (o5 + (pi : Int).toNat * 1) = some (.pointer p6) ∧ onPtr p3 fun b7 o7 => ∃ (A8 : Option Addr) (n8 c8 : Nat), cl H b7 (o7 + 0) = some (.slice A8 n8 c8) ∧ onPtr
    p6 fun b9 o9 => ∃ (A10 : Option Addr) (n10 c10 : Nat), cl H b9 (o9 + 0) = some (.slice A10 n10 c10) ∧ ∃ (A11 : Option Addr) (n11 c11 : Nat), cl H pn_b (pn_o + 0) = some (.slice A11 n11 c11) ∧ 0 ≤ (IntKind.i64.wrap (pi
    - 1) : Int) ∧ (IntKind.i64.wrap (pi - 1) : Int) < ((n11 : Nat) : Int) ∧ onPtr A11 fun b12 o12 => ∃ (A13 : Option Addr) (n13 c13 : Nat), cl H b12 (o12 + (IntKind.i64.wrap (pi - 1) : Int).toNat * 2) = some (.slice A13
    n13 c13) ∧ ∃ x14 : Int, cl H b12 ((o12 + (IntKind.i64.wrap (pi - 1) : Int).toNat * 2) + 1) = some (.int .i64 x14) ∧ newF H 46 [.slice A13 n13 c13, .int .i64 x14] fun g15 H16 => HCalls Tryz.prog 79 [.slice A10 n10 c10,
    .int .i64 0, .slice (some ⟨g15, 0, none⟩) 1 1] H16 fun v17 H18 => ∃ (A19 : Option Addr) (n19 c19 : Nat), v17 = .slice A19 n19 c19 ∧ onPtr p6 fun b20 o20 => storeF H18 b20 (o20 + 0) [.slice A19 n19 c19] fun H21 => ∃
    (A22 : Option Addr) (n22 c22 : Nat), cl H21 pn_b (pn_o + 0) = some (.slice A22 n22 c22) ∧ onPtr p3 fun b23 o23 => ∃ (A24 : Option Addr) (n24 c24 : Nat), cl H21 b23 (o23 + 0) = some (.slice A24 n24 c24) ∧ 0 ≤
    (IntKind.i64.wrap (((n8 : Nat) : Int) - 1) : Int) ∧ (IntKind.i64.wrap (((n8 : Nat) : Int) - 1) : Int) < ((n24 : Nat) : Int) ∧ onPtr A24 fun b25 o25 => ∃ (A26 : Option Addr) (n26 c26 : Nat), cl H21 b25 (o25 +
    (IntKind.i64.wrap (((n8 : Nat) : Int) - 1) : Int).toNat * 2) = some (.slice A26 n26 c26) ∧ ∃ x27 : Int, cl H21 b25 ((o25 + (IntKind.i64.wrap (((n8 : Nat) : Int) - 1) : Int).toNat * 2) + 1) = some (.int .i64 x27) ∧ 0 ≤
    (IntKind.i64.wrap (pi - 1) : Int) ∧ (IntKind.i64.wrap (pi - 1) : Int) < ((n22 : Nat) : Int) ∧ onPtr A22 fun b28 o28 => storeF H21 b28 (o28 + (IntKind.i64.wrap (pi - 1) : Int).toNat * 2) [.slice A26 n26 c26, .int .i64
    x27] fun H29 => onPtr p3 fun b30 o30 => ∃ (A31 : Option Addr) (n31 c31 : Nat), cl H29 b30 (o30 + 0) = some (.slice A31 n31 c31) ∧ 0 ≤ (IntKind.i64.wrap (((n8 : Nat) : Int) - 1) : Int) ∧ (IntKind.i64.wrap (((n8 : Nat)
    : Int) - 1) : Int) ≤ ((c31 : Nat) : Int) ∧ onPtr p3 fun b32 o32 => storeF H29 b32 (o32 + 0) [.slice (cutA A31 (0 * 2) (decide (c31 = 0))) (((IntKind.i64.wrap (((n8 : Nat) : Int) - 1) : Int).toNat) - 0) (c31 - 0)] fun
    H33 => onPtr p3 fun b34 o34 => ∃ (A35 : Option Addr) (n35 c35 : Nat), cl H33 b34 (o34 + 1) = some (.slice A35 n35 c35) ∧ cnd (decide ((((n35 : Nat) : Int) : Int) > 0)) (onPtr p6 fun b36 o36 => ∃ (A37 : Option Addr)
    (n37 c37 : Nat), cl H33 b36 (o36 + 1) = some (.slice A37 n37 c37) ∧ onPtr p3 fun b38 o38 => ∃ (A39 : Option Addr) (n39 c39 : Nat), cl H33 b38 (o38 + 1) = some (.slice A39 n39 c39) ∧ 0 ≤ (IntKind.i64.wrap
    ((IntKind.i64.wrap (((n8 : Nat) : Int) - 1)) + 1) : Int) ∧ (IntKind.i64.wrap ((IntKind.i64.wrap (((n8 : Nat) : Int) - 1)) + 1) : Int) < ((n39 : Nat) : Int) ∧ onPtr A39 fun b40 o40 => ∃ p41 : Option Addr, cl H33 b40
    (o40 + (IntKind.i64.wrap ((IntKind.i64.wrap (((n8 : Nat) : Int) - 1)) + 1) : Int).toNat * 1) = some (.pointer p41) ∧ newF H33 86 [.pointer p41] fun g42 H43 => HCalls Tryz.prog 80 [.slice A37 n37 c37, .int .i64 0,
    .slice (some ⟨g42, 0, none⟩) 1 1] H43 fun v44 H45 => ∃ (A46 : Option Addr) (n46 c46 : Nat), v44 = .slice A46 n46 c46 ∧ onPtr p6 fun b47 o47 => storeF H45 b47 (o47 + 1) [.slice A46 n46 c46] fun H48 => onPtr p3 fun b49
    o49 => ∃ (A50 : Option Addr) (n50 c50 : Nat), cl H48 b49 (o49 + 1) = some (.slice A50 n50 c50) ∧ 0 ≤ (IntKind.i64.wrap ((IntKind.i64.wrap (((n8 : Nat) : Int) - 1)) + 1) : Int) ∧ (IntKind.i64.wrap ((IntKind.i64.wrap
    (((n8 : Nat) : Int) - 1)) + 1) : Int) ≤ ((c50 : Nat) : Int) ∧ onPtr p3 fun b51 o51 => storeF H48 b51 (o51 + 1) [.slice (cutA A50 (0 * 1) (decide (c50 = 0))) (((IntKind.i64.wrap ((IntKind.i64.wrap (((n8 : Nat) : Int) -
    1)) + 1) : Int).toNat) - 0) (c50 - 0)] fun H52 => Q (.tuple #[]) H52) (Q (.tuple #[]) H33)
noncomputable def fcx103 : Cx := cx 101 [] [] [(0, (.look 0 (.look 1 (.look 2 (.look 3 (.look 4 (.look 5 (.look 6 (.look 7 (.look 8 (.look 9 (.look 10 (.look 11 (.look 12 (.look 13 (.look 14 (.act 15 (.act 16 .done .done) .done))))))))))))))))), (2, (.look 0 (.look 1 (.look 2 (.look 3 (.look 4 (.look 5 (.look 6 (.look 7 (.look 8 (.look 9 (.look 10 (.look 11 (.look 12 (.act 13 (.act 14 (.look 15 (.look 16 (.act 17 .done .done))) .done) .done))))))))))))))), (3, (.look 0 (.look 1 (.look 2 (.look 3 (.look 4 (.look 5 (.look 6 (.look 7 (.look 8 (.look 9 (.look 10 (.look 11 (.look 12 (.look 13 (.act 14 .done .done)))))))))))))))), (6, (.look 0 (.look 1 (.look 2 (.look 3 (.look 4 (.look 5 (.look 6 (.look 7 (.look 8 (.look 9 (.look 10 (.look 11 (.look 12 (.act 13 (.act 14 (.look 15 (.look 16 (.act 17 .done .done))) .done) .done)))))))))))))))] []
theorem f103.eq (pn_b pn_o : Nat) (pi : Int) (H : Hp) (Q : Value → Hp → Prop) : f103 pn_b pn_o pi H Q = wFun fcx103 Tryz.f103 [.pointer (some ⟨pn_b, pn_o, none⟩), .int .i64 pi] H Q := by kernel_rfl
theorem f103.ok (pn_b pn_o : Nat) (pi : Int) {H : Hp} {Q : Value → Hp → Prop} (h : f103 pn_b pn_o pi H Q) : HCalls Tryz.prog 103 [.pointer (some ⟨pn_b, pn_o, none⟩), .int .i64 pi] H Q := hcalls_of (cxOk _ _ _ _ _) Tryz.func103 (Eq.mp (f103.eq pn_b pn_o pi H Q) h)

/-- (*justiciar tree.node).fromRight -/
def f104 (pn_b pn_o : Nat) (pi : Int) (H : Hp) (Q : Value → Hp → Prop) : Prop :=
  ∃ (A1 : Option Addr) (n1 c1 : Nat), cl H pn_b (pn_o + 1) = some (.slice A1 n1 c1) ∧ 0 ≤ (pi : Int) ∧ (pi : Int) < ((n1 : Nat) : Int) ∧ onPtr A1 fun b2 o2 => ∃ p3 : Option Addr, cl H b2 (o2 + (pi : Int).toNat * 1) = some
    (.pointer p3) ∧ ∃ (A4 : Option Addr) (n4 c4 : Nat), cl H pn_b (pn_o + 1) = some (.slice A4 n4 c4) ∧ 0 ≤ (IntKind.i64.wrap (pi + 1) : Int) ∧ (IntKind.i64.wrap (pi + 1) : Int) < ((n4 : Nat) : Int) ∧ onPtr A4 fun b5 o5
    => ∃ p6 : Option Addr, cl H b5 (o5 + (IntKind.i64.wrap (pi + 1) : Int).toNat * 1) = some (.pointer p6) ∧ onPtr p3 fun b7 o7 => ∃ (A8 : Option Addr) (n8 c8 : Nat), cl H b7 (o7 + 0) = some (.slice A8 n8 c8) ∧ ∃ (A9 :
    Option Addr) (n9 c9 : Nat), cl H pn_b (pn_o + 0) = some (.slice A9 n9 c9) ∧ 0 ≤ (pi : Int) ∧ (pi : Int) < ((n9 : Nat) : Int) ∧ onPtr A9 fun b10 o10 => ∃ (A11 : Option Addr) (n11 c11 : Nat), cl H b10 (o10 + (pi :
    Int).toNat * 2) = some (.slice A11 n11 c11) ∧ ∃ x12 : Int, cl H b10 ((o10 + (pi : Int).toNat * 2) + 1) = some (.int .i64 x12) ∧ newF H 46 [.slice A11 n11 c11, .int .i64 x12] fun g13 H14 => appendF H14 46 2 32 A8 n8 c8
    (some ⟨g13, 0, none⟩) 1 fun A15 n15 c15 H16 => onPtr p3 fun b17 o17 => storeF H16 b17 (o17 + 0) [.slice A15 n15 c15] fun H18 => ∃ (A19 : Option Addr) (n19 c19 : Nat), cl H18 pn_b (pn_o + 0) = some (.slice A19 n19 c19)
    ∧ onPtr p6 fun b20 o20 => ∃ (A21 : Option Addr) (n21 c21 : Nat), cl H18 b20 (o20 + 0) = some (.slice A21 n21 c21) ∧ 0 ≤ (0 : Int) ∧ (0 : Int) < ((n21 : Nat) : Int) ∧ onPtr A21 fun b22 o22 => ∃ (A23 : Option Addr) (n23
    c23 : Nat), cl H18 b22 (o22 + (0 : Int).toNat * 2) = some (.slice A23 n23 c23) ∧ ∃ x24 : Int, cl H18 b22 ((o22 + (0 : Int).toNat * 2) + 1) = some (.int .i64 x24) ∧ 0 ≤ (pi : Int) ∧ (pi : Int) < ((n19 : Nat) : Int) ∧
    onPtr A19 fun b25 o25 => storeF H18 b25 (o25 + (pi : Int).toNat * 2) [.slice A23 n23 c23, .int .i64 x24] fun H26 => onPtr p6 fun b27 o27 => ∃ (A28 : Option Addr) (n28 c28 : Nat), cl H26 b27 (o27 + 0) = some (.slice
    A28 n28 c28) ∧ 0 ≤ (1 : Int) ∧ (1 : Int) ≤ ((n28 : Nat) : Int) ∧ onPtr p6 fun b29 o29 => storeF H26 b29 (o29 + 0) [.slice (cutA A28 (((1 : Int).toNat) * 2) (decide (c28 = ((1 : Int).toNat)))) (n28 - ((1 : Int).toNat))
    (c28 - ((1 : Int).toNat))] fun H30 => onPtr p6 fun b31 o31 => ∃ (A32 : Option Addr) (n32 c32 : Nat), cl H30 b31 (o31 + 1) = some (.slice A32 n32 c32) ∧ cnd (decide ((((n32 : Nat) : Int) : Int) > 0)) (onPtr p3 fun b33
    o33 => ∃ (A34 : Option Addr) (n34 c34 : Nat), cl H30 b33 (o33 + 1) = some (.slice A34 n34 c34) ∧ onPtr p6 fun b35 o35 => ∃ (A36 : Option Addr) (n36 c36 : Nat), cl H30 b35 (o35 + 1) = some (.slice A36 n36 c36) ∧ 0 ≤ (0
    : Int) ∧ (0 : Int) < ((n36 : Nat) : Int) ∧ onPtr A36 fun b37 o37 => ∃ p38 : Option Addr, cl H30 b37 (o37 + (0 : Int).toNat * 1) = some (.pointer p38) ∧ newF H30 86 [.pointer p38] fun g39 H40 => appendF H40 86 1 8 A34
    n34 c34 (some ⟨g39, 0, none⟩) 1 fun A41 n41 c41 H42 => onPtr p3 fun b43 o43 => storeF H42 b43 (o43 + 1) [.slice A41 n41 c41] fun H44 => onPtr p6 fun b45 o45 => ∃ (A46 : Option Addr) (n46 c46 : Nat), cl H44 b45 (o45 +
    1) = some (.slice A46 n46 c46) ∧ 0 ≤ (1 : Int) ∧ (1 : Int) ≤ ((n46 : Nat) : Int) ∧ onPtr p6 fun b47 o47 => storeF H44 b47 (o47 + 1) [.slice (cutA A46 (((1 : Int).toNat) * 1) (decide (c46 = ((1 : Int).toNat)))) (n46 -
    ((1 : Int).toNat)) (c46 - ((1 : Int).toNat))] fun H48 => Q (.tuple #[]) H48) (Q (.tuple #[]) H30)
noncomputable def fcx104 : Cx := cx 86 [] [] [(0, (.look 0 (.look 1 (.look 2 (.look 3 (.look 4 (.look 5 (.look 6 (.look 7 (.look 8 (.look 9 (.look 10 (.look 11 (.look 12 (.look 13 (.look 14 (.act 15 (.act 16 .done .done) .done))))))))))))))))), (1, (.look 0 (.look 1 (.look 2 (.look 3 (.look 4 (.look 5 (.look 6 (.look 7 (.look 8 (.look 9 (.look 10 (.look 11 (.act 12 (.act 13 (.look 14 (.look 15 (.act 16 .done .done))) .done) .done)))))))))))))), (2, (.look 0 (.look 1 (.look 2 (.look 3 (.look 4 (.look 5 (.look 6 (.look 7 (.look 8 (.look 9 (.look 10 (.look 11 (.act 12 .done .done)))))))))))))), (5, (.look 0 (.look 1 (.look 2 (.look 3 (.look 4 (.look 5 (.look 6 (.look 7 (.look 8 (.look 9 (.look 10 (.act 11 (.act 12 (.look 13 (.look 14 (.act 15 .done .done))) .done) .done)))))))))))))] []
theorem f104.eq (pn_b pn_o : Nat) (pi : Int) (H : Hp) (Q : Value → Hp → Prop) : f104 pn_b pn_o pi H Q = wFun fcx104 Tryz.f104 [.pointer (some ⟨pn_b, pn_o, none⟩), .int .i64 pi] H Q := by kernel_rfl
theorem f104.ok (pn_b pn_o : Nat) (pi : Int) {H : Hp} {Q : Value → Hp → Prop} (h : f104 pn_b pn_o pi H Q) : HCalls Tryz.prog 104 [.pointer (some ⟨pn_b, pn_o, none⟩), .int .i64 pi] H Q := hcalls_of (cxOk _ _ _ _ _) Tryz.func104 (Eq.mp (f104.eq pn_b pn_o pi H Q) h)

/-- (*justiciar tree.node).merge -/
def f105 (pn_b pn_o : Nat) (pi : Int) (H : Hp) (Q : Value → Hp → Prop) : Prop :=
  ∃ (A1 : Option Addr) (n1 c1 : Nat), cl H pn_b (pn_o + 1) = some (.slice A1 n1 c1) ∧ 0 ≤ (pi : Int) ∧ (pi : Int) < ((n1 : Nat) : Int) ∧ onPtr A1 fun b2 o2 => ∃ p3 : Option Addr, cl H b2 (o2 + (pi : Int).toNat * 1) = some
    (.pointer p3) ∧ ∃ (A4 : Option Addr) (n4 c4 : Nat), cl H pn_b (pn_o + 1) = some (.slice A4 n4 c4) ∧ 0 ≤ (IntKind.i64.wrap (pi + 1) : Int) ∧ (IntKind.i64.wrap (pi + 1) : Int) < ((n4 : Nat) : Int) ∧ onPtr A4 fun b5 o5
    => ∃ p6 : Option Addr, cl H b5 (o5 + (IntKind.i64.wrap (pi + 1) : Int).toNat * 1) = some (.pointer p6) ∧ onPtr p3 fun b7 o7 => ∃ (A8 : Option Addr) (n8 c8 : Nat), cl H b7 (o7 + 0) = some (.slice A8 n8 c8) ∧ ∃ (A9 :
    Option Addr) (n9 c9 : Nat), cl H pn_b (pn_o + 0) = some (.slice A9 n9 c9) ∧ 0 ≤ (IntKind.i64.wrap (pi + 1) : Int) ∧ (IntKind.i64.wrap (pi + 1) : Int) ≤ ((c9 : Nat) : Int) ∧ 0 ≤ (pi : Int) ∧ (pi : Int) ≤
    (IntKind.i64.wrap (pi + 1) : Int) ∧ onPtr p6 fun b10 o10 => ∃ (A11 : Option Addr) (n11 c11 : Nat), cl H b10 (o10 + 0) = some (.slice A11 n11 c11) ∧ newF H 28 [.slice A8 n8 c8, .slice (cutA A9 (((pi : Int).toNat) * 2)
    (decide (c9 = ((pi : Int).toNat)))) (((IntKind.i64.wrap (pi + 1) : Int).toNat) - ((pi : Int).toNat)) (c9 - ((pi : Int).toNat)), .slice A11 n11 c11] fun g12 H13 => HCalls Tryz.prog 124 [.slice (some ⟨g12, 0, none⟩) 3
    3] H13 fun v14 H15 => ∃ (A16 : Option Addr) (n16 c16 : Nat), v14 = .slice A16 n16 c16 ∧ onPtr p3 fun b17 o17 => storeF H15 b17 (o17 + 0) [.slice A16 n16 c16] fun H18 => onPtr p3 fun b19 o19 => ∃ (A20 : Option Addr)
    (n20 c20 : Nat), cl H18 b19 (o19 + 1) = some (.slice A20 n20 c20) ∧ onPtr p6 fun b21 o21 => ∃ (A22 : Option Addr) (n22 c22 : Nat), cl H18 b21 (o21 + 1) = some (.slice A22 n22 c22) ∧ appendF H18 86 1 8 A20 n20 c20 A22
    n22 fun A23 n23 c23 H24 => onPtr p3 fun b25 o25 => storeF H24 b25 (o25 + 1) [.slice A23 n23 c23] fun H26 => ∃ (A27 : Option Addr) (n27 c27 : Nat), cl H26 pn_b (pn_o + 0) = some (.slice A27 n27 c27) ∧ HCalls Tryz.prog
    83 [.slice A27 n27 c27, .int .i64 pi, .int .i64 (IntKind.i64.wrap (pi + 1))] H26 fun v28 H29 => ∃ (A30 : Option Addr) (n30 c30 : Nat), v28 = .slice A30 n30 c30 ∧ storeF H29 pn_b (pn_o + 0) [.slice A30 n30 c30] fun H31
    => ∃ (A32 : Option Addr) (n32 c32 : Nat), cl H31 pn_b (pn_o + 1) = some (.slice A32 n32 c32) ∧ HCalls Tryz.prog 125 [.slice A32 n32 c32, .int .i64 (IntKind.i64.wrap (pi + 1)), .int .i64 (IntKind.i64.wrap (pi + 2))]
    H31 fun v33 H34 => ∃ (A35 : Option Addr) (n35 c35 : Nat), v33 = .slice A35 n35 c35 ∧ storeF H34 pn_b (pn_o + 1) [.slice A35 n35 c35] fun H36 => Q (.tuple #[]) H36
noncomputable def fcx105 : Cx := cx 77 [] [] [(0, (.look 0 (.look 1 (.look 2 (.look 3 (.look 4 (.look 5 (.look 6 (.look 7 (.look 8 (.look 9 (.look 10 (.look 11 (.look 12 (.look 13 (.look 14 (.act 15 (.act 16 .done .done) .done))))))))))))))))), (1, (.look 0 (.look 1 (.look 2 (.look 3 (.look 4 (.look 5 (.look 6 (.look 7 (.look 8 (.look 9 (.look 10 (.look 11 (.look 12 (.look 13 (.look 14 (.look 15 (.look 16 (.act 17 (.act 18 (.look 19 (.look 20 (.act 21 .done .done))) .done) .done))))))))))))))))))), (2, (.look 0 (.look 1 (.look 2 (.look 3 (.look 4 (.look 5 (.look 6 (.look 7 (.look 8 (.act 9 (.look 10 (.look 11 (.act 12 .done .done))) .done)))))))))))] []
theorem f105.eq (pn_b pn_o : Nat) (pi : Int) (H : Hp) (Q : Value → Hp → Prop) : f105 pn_b pn_o pi H Q = wFun fcx105 Tryz.f105 [.pointer (some ⟨pn_b, pn_o, none⟩), .int .i64 pi] H Q := by kernel_rfl
theorem f105.ok (pn_b pn_o : Nat) (pi : Int) {H : Hp} {Q : Value → Hp → Prop} (h : f105 pn_b pn_o pi H Q) : HCalls Tryz.prog 105 [.pointer (some ⟨pn_b, pn_o, none⟩), .int .i64 pi] H Q := hcalls_of (cxOk _ _ _ _ _) Tryz.func105 (Eq.mp (f105.eq pn_b pn_o pi H Q) h)

/-- slices.Delete[[]*justiciar tree.node,*justiciar tree.node] -/
def f125 (ps_A : Option Addr) (ps_n ps_c : Nat) (pi : Int) (pj : Int) (H : Hp) (Q : Value → Hp → Prop) : Prop :=
  0 ≤ (((ps_n : Nat) : Int) : Int) ∧ (((ps_n : Nat) : Int) : Int) ≤ ((ps_c : Nat) : Int) ∧ 0 ≤ (pj : Int) ∧ (pj : Int) ≤ (((ps_n : Nat) : Int) : Int) ∧ 0 ≤ (pi : Int) ∧ (pi : Int) ≤ (pj : Int) ∧ cnd ((pi : Int) == pj) (Q
    (.slice ps_A ps_n ps_c) H) (0 ≤ (pi : Int) ∧ (pi : Int) ≤ ((ps_c : Nat) : Int) ∧ 0 ≤ (pj : Int) ∧ (pj : Int) ≤ ((ps_n : Nat) : Int) ∧ appendF H 86 1 8 (cutA ps_A (0 * 1) (decide (ps_c = 0))) (((pi : Int).toNat) - 0)
    (ps_c - 0) (cutA ps_A (((pj : Int).toNat) * 1) (decide (ps_c = ((pj : Int).toNat)))) (ps_n - ((pj : Int).toNat)) fun A1 n1 c1 H2 => jn (fun (H5 : Hp) => Q (.slice A1 n1 c1) H5) fun J6 => 0 ≤ (((ps_n : Nat) : Int) :
    Int) ∧ (((ps_n : Nat) : Int) : Int) ≤ ((c1 : Nat) : Int) ∧ 0 ≤ (((n1 : Nat) : Int) : Int) ∧ (((n1 : Nat) : Int) : Int) ≤ (((ps_n : Nat) : Int) : Int) ∧ (((((ps_n : Nat) : Int) : Int).toNat) - ((((n1 : Nat) : Int) :
    Int).toNat) = 0 → J6 H2) ∧ (0 < ((((ps_n : Nat) : Int) : Int).toNat) - ((((n1 : Nat) : Int) : Int).toNat) → onPtr (cutA A1 (((((n1 : Nat) : Int) : Int).toNat) * 1) (decide (c1 = ((((n1 : Nat) : Int) : Int).toNat))))
    fun b3 o3 => storeF H2 b3 o3 (List.replicate (((((ps_n : Nat) : Int) : Int).toNat) - ((((n1 : Nat) : Int) : Int).toNat)) [.pointer none]).flatten fun H4 => J6 H4))
noncomputable def fcx125 : Cx := cx 33 [] [] [(5, (.look 0 (.look 1 (.look 2 (.look 3 (.look 4 (.look 5 (.act 6 (.act 7 .done .done) .done))))))))] []
theorem f125.eq (ps_A : Option Addr) (ps_n ps_c : Nat) (pi : Int) (pj : Int) (H : Hp) (Q : Value → Hp → Prop) : f125 ps_A ps_n ps_c pi pj H Q = wFun fcx125 Tryz.f125 [.slice ps_A ps_n ps_c, .int .i64 pi, .int .i64 pj] H Q := by kernel_rfl
theorem f125.ok (ps_A : Option Addr) (ps_n ps_c : Nat) (pi : Int) (pj : Int) {H : Hp} {Q : Value → Hp → Prop} (h : f125 ps_A ps_n ps_c pi pj H Q) : HCalls Tryz.prog 125 [.slice ps_A ps_n ps_c, .int .i64 pi, .int .i64 pj] H Q := hcalls_of (cxOk _ _ _ _ _) Tryz.func125 (Eq.mp (f125.eq ps_A ps_n ps_c pi pj H Q) h)

end Go.Proofs.YtmelbipidffmpaaGreatDoor.Hw
