/- The pair, without the program: what Calm comes to. -/
import Derived.Test.YtkkmoeimcedkgaaQb
set_option linter.unusedVariables false
set_option linter.unusedSimpArgs false
namespace Go.Proofs.Ytkkmoeimcedkgaa.Hw
open Go Go.Proofs
def code3 (p : PS) (a : Act3) : Int := doCode p a.1 a.2.1 a.2.2
def pair3 (p : PS) (a : Act3) : PS := doPair p a.1 a.2.1 a.2.2
def setP (p : PS) : Bool := settledP (side0 p) (side1 p)
/-- The first of some acts that can be done. -/
def oneL (p : PS) : List Act3 → Option Act3
  | [] => none
  | a :: r => if code3 p a = 0 then some a else oneL p r
def one (p : PS) : Option Act3 := oneL p ((3, 0, 0) :: four)
theorem tryL_true {s : CT} : ∀ {l : List Act3}, tryL (true, s) l = (true, s)
  | [] => rfl
  | a :: r => tryL_true (l := r)
theorem tryL_one {s : CT} : ∀ {l : List Act3}, tryL (false, s) l = match oneL s.1 l with
    | some a => (true, (pair3 s.1 a, s.2 ++ [a]))
    | none => (false, s)
  | [] => rfl
  | a :: r => by
    by_cases h : code3 s.1 a = 0
    · have e : tryA s a = (true, (pair3 s.1 a, s.2 ++ [a])) := if_pos h
      have e2 : oneL s.1 (a :: r) = some a := if_pos h
      rw [e2]
      show tryL (tryA s a) r = _
      rw [e, tryL_true]
    · have e : tryA s a = (false, s) := if_neg h
      have e2 : oneL s.1 (a :: r) = oneL s.1 r := if_neg h
      rw [e2]
      show tryL (tryA s a) r = _
      rw [e]
      exact tryL_one
theorem calm_one {s : CT} : tryL (tryA s (3, 0, 0)) four = match one s.1 with
    | some a => (true, (pair3 s.1 a, s.2 ++ [a]))
    | none => (false, s) := by
  unfold one
  rw [← tryL_one]
  rfl
/-- In so many steps all is settled. -/
def ends : Nat → PS → Bool
  | 0, p => setP p
  | k + 1, p => setP p || (match one p with
    | some a => ends k (pair3 p a)
    | none => false)
theorem ends_set {p : PS} (h : setP p = true) : ∀ {k : Nat}, ends k p = true
  | 0 => h
  | k + 1 => by simp [ends, h]
theorem ends_succ : ∀ {k : Nat} {p : PS}, ends k p = true → ends (k + 1) p = true
  | 0, p, h => ends_set h
  | k + 1, p, h => by
    cases hs : setP p with
    | true => exact ends_set hs
    | false =>
      unfold ends at h ⊢
      rw [hs, Bool.false_or] at h ⊢
      cases ho : one p with
      | none => rw [ho] at h; cases h
      | some a => rw [ho] at h; exact ends_succ (k := k) h
theorem ends_le {p : PS} : ∀ {j k : Nat}, ends k p = true → ends (k + j) p = true
  | 0, k, h => h
  | j + 1, k, h => ends_succ (ends_le (j := j) h)
theorem calm_ends : ∀ {k fuel : Nat} {s : CT}, ends k s.1 = true → s.2.length + k ≤ 60 → k < fuel → setP (calmL fuel s).1 = true ∧ (calmL fuel s).2.length ≤ 60
  | k, 0, s, _, _, hf => by omega
  | k, fuel + 1, s, h, hl, hf => by
    cases hs : setP s.1 with
    | true =>
      have e : calmL (fuel + 1) s = s := by
        unfold calmL
        rw [show settledP (side0 s.1) (side1 s.1) = true from hs]; rfl
      rw [e]
      exact ⟨hs, by omega⟩
    | false =>
      match k, h with
      | 0, h => rw [show setP s.1 = true from h] at hs; cases hs
      | k + 1, h =>
        unfold ends at h
        rw [hs, Bool.false_or] at h
        cases ho : one s.1 with
        | none => rw [ho] at h; cases h
        | some a =>
          rw [ho] at h
          have e : calmL (fuel + 1) s = calmL fuel (pair3 s.1 a, s.2 ++ [a]) := by
            conv => lhs; unfold calmL
            rw [show settledP (side0 s.1) (side1 s.1) = false from hs, decide_eq_true (by omega : s.2.length < 60), calm_one, ho]
            rfl
          rw [e]
          exact calm_ends (k := k) h (by simp; omega) (by omega)

/-! ### how many steps -/
def wN (n : Int × Int) : Nat := if n == (1, 1) then 2 else if n == (1, 4) || n == (1, 5) then 0 else 1
def wL (l : List (Int × Int)) : Nat := (l.map wN).sum
def up2 (a b : Side) : Bool := a.up && b.up
theorem chk_calm : (S0.all fun a => S1.all fun b => !okS a b || (!up2 a b || settledP a b || (NN.all fun n => !okN a b n || (let t := giveN ⟨a, b, []⟩ n; up2 t.s0 t.s1 && (settledP t.s0 t.s1 || decide (wL t.ns + 1 ≤ wN n)))))) = true := by decide +kernel
theorem chk_still : (S0.all fun a => S1.all fun b => !okS a b || (!up2 a b || ends 8 ⟨[a, b], []⟩)) = true := by decide +kernel
theorem calm_note {a b : Side} {n : Int × Int} (h : okS a b = true) (hu : up2 a b = true) (hs : settledP a b = false) (hn : okN a b n = true) : up2 (giveN ⟨a, b, []⟩ n).s0 (giveN ⟨a, b, []⟩ n).s1 = true ∧ (settledP (giveN ⟨a, b, []⟩ n).s0 (giveN ⟨a, b, []⟩ n).s1 = true ∨ wL (giveN ⟨a, b, []⟩ n).ns + 1 ≤ wN n) := by
  have h1 := of_all chk_calm h
  rw [hu, hs] at h1
  simp only [Bool.not_true, Bool.false_or] at h1
  have h2 := List.all_eq_true.1 h1 n (okN_mem hn)
  rw [hn] at h2
  simpa using h2
theorem wL_cons {n : Int × Int} {l : List (Int × Int)} : wL (n :: l) = wN n + wL l := by simp [wL]
theorem wL_app {l r : List (Int × Int)} : wL (l ++ r) = wL l + wL r := by simp [wL]
theorem wL_le : ∀ {l : List (Int × Int)}, wL l ≤ 2 * l.length
  | [] => by simp [wL]
  | n :: l => by
    have := wL_le (l := l)
    have h2 : wN n ≤ 2 := by unfold wN; split <;> (try split) <;> omega
    rw [wL_cons, List.length_cons]; omega
theorem InvP.eq {p : PS} (h : InvP p) : p = ⟨[side0 p, side1 p], p.notes⟩ := by
  obtain ⟨⟨a, b, hp⟩, _, _⟩ := h
  obtain ⟨sides, notes⟩ := p
  simp only at hp
  subst hp
  rfl
theorem code_give {p : PS} (h : InvP p) (hu : up2 (side0 p) (side1 p) = true) {n : Int × Int} {r : List (Int × Int)} (hn : p.notes = n :: r) : code3 p (3, 0, 0) = 0 ∧ pair3 p (3, 0, 0) = psT (giveN ⟨side0 p, side1 p, r⟩ n) := by
  have hm : n ∈ p.notes := by rw [hn]; exact List.mem_cons_self
  have hok := h.inv.notes n hm
  have hs := h.inv.sides
  have hst : stOf p = ⟨side0 p, side1 p, n :: r⟩ := by unfold stOf; rw [hn]
  have hat : (stOf p).noteAt 0 = n := by rw [hst]; rfl
  have heff : (stOf p).eff 3 0 0 = giveN ⟨side0 p, side1 p, r⟩ n := by
    rw [hst]; rfl
  unfold up2 at hu
  simp only [Bool.and_eq_true] at hu
  have hup : (stOf p).upAt n.1 = true := by
    unfold ST.upAt
    split
    · exact hu.1
    · exact hu.2
  have hc : (stOf p).code 3 0 0 = 0 := by
    unfold ST.code
    have h1 : (stOf p).inRange 3 0 0 = true := by rw [hst]; simp [ST.inRange]
    have h2 : (stOf p).can 3 0 0 = true := by
      show (stOf p).upAt ((stOf p).noteAt 0).1 = true
      rw [hat]; exact hup
    rw [if_pos h1, if_pos h2]
  have hlen : ((stOf p).eff 3 0 0).ns.length ≤ 20 := by
    rw [heff, give_core]
    have hf := h.few
    rw [hn, List.length_cons] at hf
    have key : ∀ {a b : Side} {n : Int × Int}, (giveN ⟨a, b, []⟩ n).ns.length ≤ 1 := fun {a b n} => by
      unfold giveN ST.lead ST.part ST.refuse
      simp only
      repeat' split
      all_goals simp [ST.send, ST.write0, ST.write1]
    have := key (a := side0 p) (b := side1 p) (n := n)
    simp only [List.length_append]
    omega
  have h0 : code3 p (3, 0, 0) = 0 := by
    unfold code3 doCode
    simp only
    rw [h.formed, hc, if_pos hlen]
    rfl
  refine ⟨h0, ?_⟩
  have : pair3 p (3, 0, 0) = psT ((stOf p).eff 3 0 0) := by
    unfold pair3 doPair
    exact if_pos h0
  rw [this, heff]
theorem notes_ends : ∀ {w : Nat} {p : PS}, InvP p → up2 (side0 p) (side1 p) = true → wL p.notes ≤ w → ends (w + 8) p = true := by
  intro w
  induction w with
  | zero =>
    intro p h hu hw
    cases hs : setP p with
    | true => exact ends_set hs
    | false =>
      cases hn : p.notes with
      | nil =>
        have := of_all chk_still h.inv.sides
        rw [show up2 (stOf p).s0 (stOf p).s1 = true from hu] at this
        have e : p = ⟨[(stOf p).s0, (stOf p).s1], []⟩ := by
          conv => lhs; rw [h.eq, hn]
          rfl
        rw [e]
        simpa using this
      | cons n r =>
        obtain ⟨hc, hp⟩ := code_give h hu hn
        have hok := h.inv.notes n (by show n ∈ p.notes; rw [hn]; exact List.mem_cons_self)
        have this := calm_note h.inv.sides hu hs hok
        rw [hn, wL_cons] at hw
        have ho : one p = some (3, 0, 0) := if_pos hc
        unfold ends
        rw [hs, ho, Bool.false_or]
        refine ends_set ?_
        rw [hp, give_core]
        rcases this.2 with h2 | h2
        · exact h2
        · omega
  | succ w ih =>
    intro p h hu hw
    cases hs : setP p with
    | true => exact ends_set hs
    | false =>
      cases hn : p.notes with
      | nil => exact ends_succ (ih h hu (by rw [hn]; simp [wL]))
      | cons n r =>
        obtain ⟨hc, hp⟩ := code_give h hu hn
        have hok := h.inv.notes n (by show n ∈ p.notes; rw [hn]; exact List.mem_cons_self)
        have this := calm_note h.inv.sides hu hs hok
        rw [hn, wL_cons] at hw
        have ho : one p = some (3, 0, 0) := if_pos hc
        have hinv := (h.do hc).1
        show ends ((w + 8) + 1) p = true
        unfold ends
        rw [hs, ho, Bool.false_or]
        rcases this.2 with h2 | h2
        · refine ends_set ?_
          rw [hp, give_core]
          exact h2
        · refine ih hinv ?_ ?_
          · show up2 (side0 (pair3 p (3, 0, 0))) (side1 (pair3 p (3, 0, 0))) = true
            rw [hp, give_core]
            exact this.1
          · show wL (pair3 p (3, 0, 0)).notes ≤ w
            rw [hp, give_core]
            show wL (r ++ _) ≤ w
            rw [wL_app]
            have h2' : wL (giveN ⟨(stOf p).s0, (stOf p).s1, []⟩ n).ns + 1 ≤ wN n := h2
            have h3 : wL (giveN ⟨side0 p, side1 p, []⟩ n).ns + 1 ≤ wN n := h2'
            show wL r + wL (giveN ⟨side0 p, side1 p, []⟩ n).ns ≤ w
            omega

/-! ### what Calm's acts are -/
/-- The acts lead from one pair to the other, and none has an error. -/
def Rep : PS → List Act3 → PS → Prop
  | p, [], q => p = q
  | p, a :: r, q => code3 p a = 0 ∧ Rep (pair3 p a) r q
theorem Rep.snoc {a : Act3} : ∀ {l : List Act3} {p q : PS}, Rep p l q → code3 q a = 0 → Rep p (l ++ [a]) (pair3 q a)
  | [], p, q, h, hc => by cases h; exact ⟨hc, rfl⟩
  | b :: r, p, q, h, hc => ⟨h.1, Rep.snoc (l := r) h.2 hc⟩
def isStart (a : Act3) : Bool := a.1 == 7
def isCalm (a : Act3) : Bool := a.1 == 3 || a.1 == 2 || a.1 == 8 || a.1 == 9
structure CalmOk (p : PS) (s : CT) : Prop where
  inv : InvP s.1
  up : up2 (side0 s.1) (side1 s.1) = true
  rep : Rep p s.2 s.1
  acts : ∃ l r, s.2 = l ++ r ∧ l.all isStart = true ∧ r.all isCalm = true
theorem chk_up : (S0.all fun a => S1.all fun b => !okS a b || (!up2 a b || ([((2 : Int), (0 : Int)), (8, 0), (9, 0), (9, 1)].all fun o => up2 ((ST.mk a b []).eff o.1 o.2 0).s0 ((ST.mk a b []).eff o.1 o.2 0).s1))) = true := by decide +kernel
theorem chk_upN : (S0.all fun a => S1.all fun b => !okS a b || (!up2 a b || (NN.all fun n => !okN a b n || up2 (giveN ⟨a, b, []⟩ n).s0 (giveN ⟨a, b, []⟩ n).s1))) = true := by decide +kernel
theorem pair3_eq {p : PS} {a : Act3} (h : code3 p a = 0) : pair3 p a = psT ((stOf p).eff a.1 a.2.1 a.2.2) := by
  unfold pair3 doPair
  exact if_pos h
theorem up_four {p : PS} (h : InvP p) (hu : up2 (side0 p) (side1 p) = true) {a : Act3} (ha : a ∈ (3, 0, 0) :: four) (hc : code3 p a = 0) : up2 (side0 (pair3 p a)) (side1 (pair3 p a)) = true := by
  rw [pair3_eq hc]
  rcases List.mem_cons.1 ha with rfl | ha
  · cases hn : p.notes with
    | nil =>
      have : code3 p (3, 0, 0) = 21 := by
        have e : stOf p = ⟨side0 p, side1 p, []⟩ := by unfold stOf; rw [hn]
        have e2 : (stOf p).code 3 0 0 = 21 := by rw [e]; rfl
        unfold code3 doCode
        simp only
        rw [h.formed, e2]
        rfl
      rw [this] at hc; cases hc
    | cons n r =>
      have hok := h.inv.notes n (by show n ∈ p.notes; rw [hn]; exact List.mem_cons_self)
      have h1 := of_all chk_upN h.inv.sides
      rw [show up2 (stOf p).s0 (stOf p).s1 = true from hu] at h1
      simp only [Bool.not_true, Bool.false_or] at h1
      have h2 := List.all_eq_true.1 h1 n (okN_mem hok)
      rw [hok] at h2
      have e := (code_give h hu hn).2
      rw [pair3_eq hc] at e
      rw [e, give_core]
      simp only [Bool.not_true, Bool.false_or] at h2
      exact h2
  · have h1 := of_all chk_up h.inv.sides
    rw [show up2 (stOf p).s0 (stOf p).s1 = true from hu] at h1
    simp only [Bool.not_true, Bool.false_or, List.all_cons, List.all_nil, Bool.and_true, Bool.and_eq_true] at h1
    unfold four at ha
    simp only [List.mem_cons, List.not_mem_nil, or_false] at ha
    rcases ha with rfl | rfl | rfl | rfl
    · exact h1.1
    · exact h1.2.2.1
    · exact h1.2.1
    · exact h1.2.2.2
theorem oneL_mem {p : PS} {a : Act3} : ∀ {l : List Act3}, oneL p l = some a → a ∈ l ∧ code3 p a = 0
  | b :: r, h => by
    unfold oneL at h
    split at h
    · rename_i hc; cases h; exact ⟨List.mem_cons_self, hc⟩
    · obtain ⟨h1, h2⟩ := oneL_mem (l := r) h
      exact ⟨List.mem_cons_of_mem _ h1, h2⟩
theorem calm_ok {p : PS} : ∀ {fuel : Nat} {s : CT}, CalmOk p s → CalmOk p (calmL fuel s)
  | 0, s, h => h
  | fuel + 1, s, h => by
    unfold calmL
    split
    rotate_left
    · exact h
    dsimp only
    rw [calm_one]
    cases ho : one s.1 with
    | none => exact h
    | some a =>
      obtain ⟨hm, hc⟩ := oneL_mem ho
      refine calm_ok (fuel := fuel) ⟨(h.inv.do hc).1, up_four h.inv h.up hm hc, h.rep.snoc hc, ?_⟩
      obtain ⟨l, r, he, h1, h2⟩ := h.acts
      refine ⟨l, r ++ [a], by simp only [he, List.append_assoc], h1, ?_⟩
      rw [List.all_append, h2]
      have key : ((3, 0, 0) :: four).all isCalm = true := by decide
      have := List.all_eq_true.1 key a hm
      simp [this]
theorem start_code {p : PS} (h : InvP p) {i : Int} (hi : i = 0 ∨ i = 1) : code3 p (7, i, 0) = if (stOf p).upAt i then 5 else 0 := by
  have hlen : ((stOf p).eff 7 i 0).ns.length ≤ 20 := by
    have : ((stOf p).eff 7 i 0).ns = p.notes := by
      show ((stOf p).start i).ns = p.notes
      unfold ST.start
      repeat' split
      all_goals rfl
    rw [this]; exact h.few
  have hc : (stOf p).code 7 i 0 = if (stOf p).upAt i then 5 else 0 := by
    unfold ST.code
    have h1 : (stOf p).inRange 7 i 0 = true := by rcases hi with rfl | rfl <;> rfl
    have h2 : (stOf p).can 7 i 0 = !(stOf p).upAt i := rfl
    rw [if_pos h1, h2]
    cases (stOf p).upAt i <;> rfl
  unfold code3 doCode
  simp only
  rw [h.formed, hc, if_pos hlen]
  cases (stOf p).upAt i <;> rfl
theorem start0 {p : PS} : (((stOf p).eff 7 0 0).s0.up = true ∧ ((stOf p).eff 7 0 0).s1 = (stOf p).s1) := by
  show ((stOf p).start 0).s0.up = true ∧ ((stOf p).start 0).s1 = (stOf p).s1
  unfold ST.start
  rw [if_pos (by decide)]
  split <;> exact ⟨rfl, rfl⟩
theorem start1 {p : PS} : (((stOf p).eff 7 1 0).s1.up = true ∧ ((stOf p).eff 7 1 0).s0 = (stOf p).s0) := by
  show ((stOf p).start 1).s1.up = true ∧ ((stOf p).start 1).s0 = (stOf p).s0
  unfold ST.start
  rw [if_neg (by decide)]
  split <;> exact ⟨rfl, rfl⟩
theorem calmS_ok {p : PS} (h : InvP p) : CalmOk p (calmS p) ∧ (calmS p).2.length ≤ 2 := by
  unfold calmS
  have first : ∃ s : CT, (tryA (p, []) (7, 0, 0)).2 = s ∧ InvP s.1 ∧ (side0 s.1).up = true ∧ Rep p s.2 s.1 ∧ s.2.all isStart = true ∧ s.2.length ≤ 1 := by
    refine ⟨_, rfl, ?_⟩
    have hc := start_code h (i := 0) (.inl rfl)
    by_cases hu : (stOf p).upAt 0 = true
    · rw [if_pos hu] at hc
      have e : tryA (p, []) (7, 0, 0) = (false, (p, [])) := if_neg (by intro h0; rw [show doCode p 7 0 0 = code3 p (7, 0, 0) from rfl, hc] at h0; cases h0)
      rw [e]
      exact ⟨h, hu, rfl, rfl, by simp⟩
    · rw [if_neg hu] at hc
      have e : tryA (p, []) (7, 0, 0) = (true, (pair3 p (7, 0, 0), [(7, 0, 0)])) := if_pos hc
      rw [e]
      refine ⟨(h.do hc).1, ?_, ⟨hc, rfl⟩, rfl, by simp⟩
      show (side0 (pair3 p (7, 0, 0))).up = true
      rw [pair3_eq hc]
      exact start0.1
  obtain ⟨s, hs, h1, h2, h3, h4, h5⟩ := first
  rw [hs]
  have hc := start_code h1 (i := 1) (.inr rfl)
  by_cases hu : (stOf s.1).upAt 1 = true
  · rw [if_pos hu] at hc
    have e : tryA s (7, 1, 0) = (false, s) := if_neg (by intro h0; rw [show doCode s.1 7 1 0 = code3 s.1 (7, 1, 0) from rfl, hc] at h0; cases h0)
    rw [e]
    refine ⟨⟨h1, ?_, h3, s.2, [], by simp, h4, rfl⟩, by simp only; omega⟩
    unfold up2
    rw [h2, show (side1 s.1).up = true from hu]; rfl
  · rw [if_neg hu] at hc
    have e : tryA s (7, 1, 0) = (true, (pair3 s.1 (7, 1, 0), s.2 ++ [(7, 1, 0)])) := if_pos hc
    rw [e]
    refine ⟨⟨(h1.do hc).1, ?_, h3.snoc hc, s.2 ++ [(7, 1, 0)], [], by simp, by rw [List.all_append, h4]; rfl, rfl⟩, by simp; omega⟩
    show up2 (side0 (pair3 s.1 (7, 1, 0))) (side1 (pair3 s.1 (7, 1, 0))) = true
    rw [pair3_eq hc]
    have := start1 (p := s.1)
    unfold up2
    rw [show (side1 (psT ((stOf s.1).eff 7 1 0))).up = true from this.1, show side0 (psT ((stOf s.1).eff 7 1 0)) = (stOf s.1).s0 from this.2]
    rw [Bool.and_true]; exact h2
/-- Calm settles; it starts, and then gives, asks, queries and drops alone; none of its acts has an error; they are few. -/
theorem calm_all {p : PS} (h : InvP p) : CalmOk p (calmM p) ∧ setP (calmM p).1 = true ∧ (calmM p).2.length ≤ 60 := by
  obtain ⟨h1, h2⟩ := calmS_ok h
  refine ⟨calm_ok h1, ?_⟩
  have hw : wL (calmS p).1.notes ≤ 40 := by
    have := wL_le (l := (calmS p).1.notes)
    have := h1.inv.few
    omega
  exact calm_ends (notes_ends h1.inv h1.up hw) (by omega) (by omega)
end Go.Proofs.Ytkkmoeimcedkgaa.Hw
