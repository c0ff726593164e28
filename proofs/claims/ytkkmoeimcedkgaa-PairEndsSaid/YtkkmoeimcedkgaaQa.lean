/- The pair, without the program: what holds of every pair that acts make. -/
import Derived.Test.YtkkmoeimcedkgaaPr
set_option linter.unusedVariables false
set_option linter.unusedSimpArgs false
namespace Go.Proofs.Ytkkmoeimcedkgaa.Hw
open Go Go.Proofs
/-- The states of server 0, and of server 1. -/
def S0 : List Side := [⟨0, true, []⟩, ⟨1, true, []⟩, ⟨2, true, []⟩, ⟨0, false, []⟩, ⟨3, true, [3]⟩, ⟨0, false, [3]⟩, ⟨4, true, [4]⟩, ⟨0, false, [4]⟩]
def S1 : List Side := [⟨0, true, []⟩, ⟨1, true, []⟩, ⟨0, false, []⟩, ⟨2, true, [2]⟩, ⟨0, false, [2]⟩, ⟨4, true, [4]⟩, ⟨0, false, [4]⟩, ⟨3, true, [2, 3]⟩, ⟨0, false, [2, 3]⟩, ⟨4, true, [2, 4]⟩, ⟨0, false, [2, 4]⟩]
def okS (a b : Side) : Bool := S0.contains a && S1.contains b && (!(a.log == [3]) || b.log == [2] || b.log == [2, 3]) && (!(b.log == [2, 3]) || a.log == [3]) && (!(b.log == [2, 4]) || a.log == [4])
/-- The notes that there are. -/
def NN : List (Int × Int) := [(1, 1), (0, 2), (0, 3), (1, 4), (1, 5), (0, 6), (0, 7)]
def okN (a b : Side) (n : Int × Int) : Bool := NN.contains n && (!(n == (0, 2)) || b.log.head? == some 2) && (!(n == (1, 4)) || a.log == [3]) && (!(n == (1, 5)) || a.log == [4])
/-- A server's words stay; behind the last one comes nothing. -/
def grow (a b : Side) : Bool := a.log.isPrefixOf b.log && (!(lastP a.log == 3 || lastP a.log == 4) || a.log == b.log)
def stepOk (a b : Side) (t : ST) : Bool := okS t.s0 t.s1 && t.ns.all (okN t.s0 t.s1) && NN.all (fun m => !okN a b m || okN t.s0 t.s1 m) && grow a t.s0 && grow b t.s1
def giveN (s : ST) (n : Int × Int) : ST := if n.1 == 0 then s.lead n.2 else s.part n.2
theorem chk_op : (S0.all fun a => S1.all fun b => !okS a b || ([((1 : Int), (0 : Int)), (2, 0), (6, 0), (6, 1), (7, 0), (7, 1), (8, 0), (9, 0), (9, 1)].all fun o => !(ST.mk a b []).can o.1 o.2 0 || stepOk a b ((ST.mk a b []).eff o.1 o.2 0))) = true := by decide +kernel
theorem chk_give : (S0.all fun a => S1.all fun b => !okS a b || (NN.all fun n => !okN a b n || !(ST.mk a b []).upAt n.1 || stepOk a b (giveN ⟨a, b, []⟩ n))) = true := by decide +kernel
theorem chk_none : (S0.all fun a => S1.all fun b => !okS a b || stepOk a b ⟨a, b, []⟩) = true := by decide +kernel
theorem of_all {f : Side → Side → Bool} (h : (S0.all fun a => S1.all fun b => !okS a b || f a b) = true) {a b : Side} (hs : okS a b = true) : f a b = true := by
  have h0 : a ∈ S0 ∧ b ∈ S1 := by
    unfold okS at hs
    simp only [Bool.and_eq_true] at hs
    exact ⟨List.contains_iff_mem.1 hs.1.1.1.1, List.contains_iff_mem.1 hs.1.1.1.2⟩
  have := List.all_eq_true.1 (List.all_eq_true.1 h a h0.1) b h0.2
  rw [hs] at this
  simpa using this
theorem okN_mem {a b : Side} {n : Int × Int} (h : okN a b n = true) : n ∈ NN := by
  unfold okN at h
  simp only [Bool.and_eq_true] at h
  exact List.contains_iff_mem.1 h.1.1.1
/-- What holds of every state that acts make. -/
structure Inv (s : ST) : Prop where
  sides : okS s.s0 s.s1 = true
  notes : ∀ n ∈ s.ns, okN s.s0 s.s1 n = true
theorem step_ok {s t : ST} {ns : List (Int × Int)} (h : Inv s) (hs : ∀ n ∈ ns, n ∈ s.ns) (ht : stepOk s.s0 s.s1 t = true) : Inv ⟨t.s0, t.s1, ns ++ t.ns⟩ ∧ grow s.s0 t.s0 = true ∧ grow s.s1 t.s1 = true := by
  unfold stepOk at ht
  simp only [Bool.and_eq_true] at ht
  obtain ⟨⟨⟨⟨h1, h2⟩, h3⟩, h4⟩, h5⟩ := ht
  refine ⟨⟨h1, fun n hn => ?_⟩, h4, h5⟩
  rcases List.mem_append.1 hn with hn | hn
  · have g := h.notes n (hs n hn)
    have := List.all_eq_true.1 h3 n (okN_mem g)
    rw [g] at this
    simpa using this
  · exact List.all_eq_true.1 h2 n hn
theorem lead_core {s : ST} {k : Int} : s.lead k = ⟨((ST.mk s.s0 s.s1 []).lead k).s0, ((ST.mk s.s0 s.s1 []).lead k).s1, s.ns ++ ((ST.mk s.s0 s.s1 []).lead k).ns⟩ := by
  unfold ST.lead ST.refuse ST.in0
  simp only
  repeat' split
  all_goals simp [ST.send, ST.write0]
theorem part_core {s : ST} {k : Int} : s.part k = ⟨((ST.mk s.s0 s.s1 []).part k).s0, ((ST.mk s.s0 s.s1 []).part k).s1, s.ns ++ ((ST.mk s.s0 s.s1 []).part k).ns⟩ := by
  unfold ST.part ST.in1
  simp only
  repeat' split
  all_goals simp_all [ST.send, ST.write1]
theorem give_core {s : ST} {n : Int × Int} : giveN s n = ⟨(giveN ⟨s.s0, s.s1, []⟩ n).s0, (giveN ⟨s.s0, s.s1, []⟩ n).s1, s.ns ++ (giveN ⟨s.s0, s.s1, []⟩ n).ns⟩ := by
  unfold giveN
  split
  · exact lead_core
  · exact part_core
theorem mem_noteAt {s : ST} {nt : Int} (h0 : 0 ≤ nt) (h1 : nt < s.ns.length) : s.noteAt nt ∈ s.ns := by
  have : s.ns[nt.toNat]? = some (s.noteAt nt) := by
    unfold ST.noteAt
    rw [List.getD_eq_getElem?_getD, List.getElem?_eq_getElem (by omega)]; rfl
  exact List.mem_of_getElem? this
theorem mem_op {a b : Side} (hs : okS a b = true) {op sd : Int} (ho : (op, sd) ∈ [((1 : Int), (0 : Int)), (2, 0), (6, 0), (6, 1), (7, 0), (7, 1), (8, 0), (9, 0), (9, 1)]) (hc : (ST.mk a b []).can op sd 0 = true) : stepOk a b ((ST.mk a b []).eff op sd 0) = true := by
  have := List.all_eq_true.1 (of_all chk_op hs) (op, sd) ho
  simp only [hc] at this
  simpa using this
theorem inv_step {s : ST} (h : Inv s) {op sd nt : Int} (h1 : 1 ≤ op) (h9 : op ≤ 9) (hc : s.code op sd nt = 0) : Inv (s.eff op sd nt) ∧ grow s.s0 (s.eff op sd nt).s0 = true ∧ grow s.s1 (s.eff op sd nt).s1 = true := by
  unfold ST.code at hc
  split at hc
  rotate_left
  · cases hc
  rename_i hr
  split at hc
  rotate_left
  · cases hc
  rename_i hcan
  have hall : ∀ n ∈ s.ns, n ∈ s.ns := fun n h => h
  have same : Inv s ∧ grow s.s0 s.s0 = true ∧ grow s.s1 s.s1 = true := by
    have := step_ok (ns := s.ns) h hall (of_all chk_none h.sides)
    simpa using this
  have hcases : op = 1 ∨ op = 2 ∨ op = 3 ∨ op = 4 ∨ op = 5 ∨ op = 6 ∨ op = 7 ∨ op = 8 ∨ op = 9 := by omega
  rcases hcases with rfl | rfl | rfl | rfl | rfl | rfl | rfl | rfl | rfl
  · have := step_ok (ns := s.ns) h hall (mem_op h.sides (op := 1) (sd := 0) (by decide) hcan)
    simpa [ST.eff, ST.ph0, ST.ph1] using this
  · have := step_ok (ns := s.ns) h hall (mem_op h.sides (op := 2) (sd := 0) (by decide) hcan)
    simpa [ST.eff, ST.ph0, ST.send] using this
  · have hrr : 0 ≤ nt ∧ nt < s.ns.length := by simpa [ST.inRange] using hr
    have hm := mem_noteAt hrr.1 hrr.2
    have hn := h.notes _ hm
    have hup : (ST.mk s.s0 s.s1 []).upAt (s.noteAt nt).1 = true := by
      have : s.upAt (s.noteAt nt).1 = true := by simpa [ST.can] using hcan
      exact this
    have g := List.all_eq_true.1 (of_all chk_give h.sides) _ (okN_mem hn)
    rw [hn, hup] at g
    have e : s.eff 3 sd nt = giveN (s.take nt.toNat) (s.noteAt nt) := rfl
    rw [e, give_core]
    exact step_ok (ns := (s.take nt.toNat).ns) h (fun n hn => List.mem_of_mem_eraseIdx hn) (by simpa [ST.take] using g)
  · have := step_ok (ns := s.ns.eraseIdx nt.toNat) h (fun n hn => List.mem_of_mem_eraseIdx hn) (of_all chk_none h.sides)
    simpa [ST.eff, ST.take] using this
  · have hrr : 0 ≤ nt ∧ nt < s.ns.length := by simpa [ST.inRange] using hr
    have hm := mem_noteAt hrr.1 hrr.2
    have := step_ok (ns := s.ns ++ [s.noteAt nt]) h (fun n hn => by
      rcases List.mem_append.1 hn with hn | hn
      · exact hn
      · rw [List.mem_singleton] at hn; subst hn; exact hm) (of_all chk_none h.sides)
    simpa [ST.eff, ST.send] using this
  · have hrr : 0 ≤ sd ∧ sd ≤ 1 := by simpa [ST.inRange] using hr
    have hsd : sd = 0 ∨ sd = 1 := by omega
    rcases hsd with rfl | rfl
    · have := step_ok (ns := s.ns) h hall (mem_op h.sides (op := 6) (sd := 0) (by decide) hcan)
      simpa [ST.eff, ST.stop, ST.up0, ST.ph0] using this
    · have := step_ok (ns := s.ns) h hall (mem_op h.sides (op := 6) (sd := 1) (by decide) hcan)
      simpa [ST.eff, ST.stop, ST.up1, ST.ph1] using this
  · have hrr : 0 ≤ sd ∧ sd ≤ 1 := by simpa [ST.inRange] using hr
    have hsd : sd = 0 ∨ sd = 1 := by omega
    rcases hsd with rfl | rfl
    · have := step_ok (ns := s.ns) h hall (mem_op h.sides (op := 7) (sd := 0) (by decide) hcan)
      simp only [ST.eff, ST.start] at this ⊢
      by_cases hl : 0 < s.s0.log.length <;> simpa [ST.up0, ST.ph0, hl] using this
    · have := step_ok (ns := s.ns) h hall (mem_op h.sides (op := 7) (sd := 1) (by decide) hcan)
      simp only [ST.eff, ST.start] at this ⊢
      by_cases hl : 0 < s.s1.log.length <;> simpa [ST.up1, ST.ph1, hl] using this
  · have := step_ok (ns := s.ns) h hall (mem_op h.sides (op := 8) (sd := 0) (by decide) hcan)
    simpa [ST.eff, ST.send] using this
  · have hrr : 0 ≤ sd ∧ sd ≤ 1 := by simpa [ST.inRange] using hr
    have hsd : sd = 0 ∨ sd = 1 := by omega
    rcases hsd with rfl | rfl
    · have := step_ok (ns := s.ns) h hall (mem_op h.sides (op := 9) (sd := 0) (by decide) hcan)
      simpa [ST.eff, ST.drop, ST.write0, ST.send] using this
    · have := step_ok (ns := s.ns) h hall (mem_op h.sides (op := 9) (sd := 1) (by decide) hcan)
      simpa [ST.eff, ST.drop, ST.write1] using this

/-! ### pairs -/
/-- What holds of every pair that acts make. -/
structure InvP (p : PS) : Prop where
  two : ∃ a b, p.sides = [a, b]
  inv : Inv (stOf p)
  few : p.notes.length ≤ 20
theorem chk_form : (S0.all fun a => S1.all fun b => !okS a b || (sideOk a && sideOk b)) = true := by decide +kernel
theorem InvP.formed {p : PS} (h : InvP p) : formed p = true := by
  obtain ⟨⟨a, b, hp⟩, hi, hf⟩ := h
  have e0 : (stOf p).s0 = a := by unfold stOf side0; rw [hp]; rfl
  have e1 : (stOf p).s1 = b := by unfold stOf side1; rw [hp]; rfl
  have hs := hi.sides
  have hn := hi.notes
  rw [e0, e1] at hs hn
  have g := of_all chk_form hs
  simp only [Bool.and_eq_true] at g
  unfold Hw.formed
  rw [hp]
  simp only [List.length_cons, List.length_nil, List.all_cons, List.all_nil, g.1, g.2, decide_eq_true hf, Bool.and_true, Bool.true_and, decide_true]
  refine List.all_eq_true.2 fun n h => ?_
  have := okN_mem (hn n h)
  have key : NN.all noteOk = true := by decide
  exact List.all_eq_true.1 key n this
theorem InvP.new : InvP newP := ⟨⟨_, _, rfl⟩, ⟨by decide, fun n hn => by cases hn⟩, by decide⟩
theorem InvP.do {p : PS} (h : InvP p) {op sd nt : Int} (hc : doCode p op sd nt = 0) : InvP (doPair p op sd nt) ∧ grow (side0 p) (side0 (doPair p op sd nt)) = true ∧ grow (side1 p) (side1 (doPair p op sd nt)) = true := by
  unfold doPair
  rw [if_pos hc]
  unfold doCode at hc
  split at hc
  rotate_left
  · cases hc
  rename_i hop
  simp only [Bool.and_eq_true, decide_eq_true_eq] at hop
  split at hc
  rotate_left
  · rename_i hne; exact absurd hc hne
  rename_i hcode
  split at hc
  rotate_left
  · cases hc
  rename_i hlen
  obtain ⟨g1, g2, g3⟩ := inv_step h.inv hop.1.2 hop.2 hcode
  exact ⟨⟨⟨_, _, rfl⟩, g1, hlen⟩, g2, g3⟩
theorem InvP.step {p : PS} (h : InvP p) {a : Act3} : InvP (stepP p a) := by
  unfold stepP
  split
  · rename_i hc; exact (h.do hc).1
  · exact h
theorem InvP.run : ∀ {l : List Act3} {p : PS}, InvP p → InvP (runP p l)
  | [], p, h => h
  | a :: r, p, h => InvP.run (l := r) h.step
end Go.Proofs.Ytkkmoeimcedkgaa.Hw
