/- The pair: Calm. -/
import Derived.Test.YtkkmoeimcedkgaaPo
set_option linter.unusedVariables false
set_option linter.unusedSimpArgs false
namespace Go.Proofs.Ytkkmoeimcedkgaa.Hw
open Go Go.Proofs
section
variable {H0 H H' : Hp} {Q : Value → Hp → Prop} {K : Hp → Prop}
/-- What Calm's closure works on: the pair in block 'g1', the acts so far behind block 'g8'. -/
structure CS1 (H0 H : Hp) (g1 g8 : Nat) (p : PS) (out : List Act3) (Hs : Hp) (C : Option Addr) (k e : Nat) (C' : Option Addr) (k' e' : Nat) (l : List RS) (ns : List (Int × Int)) (B : Option Addr) (d : Nat) : Prop where
  x0 : Ext H0 Hs
  x1 : Ext Hs H
  pr : PairAt Hs C k C' k' l ns
  eq : psOf l ns = p
  b1 : ∃ ty, H g1 = some (.cells [Value.slice C k e, .slice C' k' e'].toArray ty (0, 0))
  b8 : ∃ ty, H g8 = some (.cells [Value.slice B out.length d].toArray ty (0, 0))
  row : Row H0 H B out.length d 3 (out.flatMap actC)
  n1 : Hs g1 = none
  n8 : Hs g8 = none
  ne : g1 ≠ g8
  nr : ∀ b, rowB B b → Hs b = none ∧ b ≠ g1 ∧ b ≠ g8
def CS (H0 H : Hp) (g1 g8 : Nat) (p : PS) (out : List Act3) : Prop := ∃ Hs C k e C' k' e' l ns B d, CS1 H0 H g1 g8 p out Hs C k e C' k' e' l ns B d
theorem act_one {a : Act3} : ∀ v ∈ actC a, v.oneCell' = true := by
  intro v hv
  simp only [actC, List.mem_cons, List.not_mem_nil, or_false] at hv
  rcases hv with rfl | rfl | rfl <;> rfl
theorem c37 {g1 g8 : Nat} {p : PS} {out : List Act3} {a : Act3} (h : CS H0 H g1 g8 p out) (hsz : sizeP p + 2 < big) (hol : out.length < 1000000)
    (hno : doCode p a.1 a.2.1 a.2.2 ≠ 0 → ∀ H', CS H0 H' g1 g8 p out → Q (.bool false) H') (hyes : doCode p a.1 a.2.1 a.2.2 = 0 → ∀ H', CS H0 H' g1 g8 (doPair p a.1 a.2.1 a.2.2) (out ++ [a]) → Q (.bool true) H') :
    HCalls Try.prog 37 [.agg #[.int .i64 a.1, .int .i64 a.2.1, .int .i64 a.2.2], .pointer (some ⟨g1, 0, none⟩), .pointer (some ⟨g8, 0, none⟩)] H Q := by
  refine f37.ok _ _ _ g1 0 g8 0 ?_
  unfold f37
  obtain ⟨Hs, C, k, e, C', k', e', l, ns, B, d, h⟩ := h
  obtain ⟨ty1, hb1⟩ := h.b1
  obtain ⟨ty8, hb8⟩ := h.b8
  have heq := h.eq
  subst heq
  refine ⟨C, k, e, by rw [cl_cells hb1]; rfl, C', k', e', by rw [cl_cells hb1]; rfl, ?_⟩
  have call := c11 (c0 := e) (c1 := e') (op := a.1) (sd := a.2.1) (nt := a.2.2) h.pr (by rw [← sizeP_ps]; exact hsz) (Q := fun v H1 => ∃ (A : Option Addr) (n c : Nat) (A' : Option Addr) (n' c' : Nat) (l2 : List RS) (ns2 : List (Int × Int)), v = .tuple #[.agg #[.slice A n c, .slice A' n' c'], .int .i64 (doCode (psOf l ns) a.1 a.2.1 a.2.2)] ∧ Ext Hs H1 ∧ PairAt H1 A n A' n' l2 ns2 ∧ psOf l2 ns2 = doPair (psOf l ns) a.1 a.2.1 a.2.2)
    fun A n c A' n' c' H1 l2 ns2 h1 h2 h3 => ⟨A, n, c, A', n', c', l2, ns2, rfl, h1, h2, h3⟩
  refine (HCalls.part call h.x1).mono ?_
  rintro v H4 ⟨H1, ⟨E, j, i, E', j', i', l2, ns2, rfl, g1', g2, g3⟩, g4, g5⟩
  have p1 := g5 g1 h.n1 (by rw [hb1]; simp)
  have p8 := g5 g8 h.n8 (by rw [hb8]; simp)
  have hrow4 : Row H0 H4 B out.length d 3 (out.flatMap actC) := h.row.keep fun b hb => (g5 b (h.nr b hb).1 (h.row.lt hb).1).2
  have hnr4 : ∀ b, rowB B b → H1 b = none ∧ b ≠ g1 ∧ b ≠ g8 := fun b hb => ⟨(g5 b (h.nr b hb).1 (h.row.lt hb).1).1, (h.nr b hb).2⟩
  refine ⟨E, j, i, E', j', i', _, rfl, cndI (fun hc => ?_) (fun hc => ?_)⟩
  · exact hno (by simpa using hc) H4 ⟨H1, C, k, e, C', k', e', l, ns, B, d, h.x0.trans g1', g4, h.pr.ext g1', rfl, ⟨ty1, p1.2.trans hb1⟩, ⟨ty8, p8.2.trans hb8⟩, hrow4, p1.1, p8.1, h.ne, hnr4⟩
  have hc0 : doCode (psOf l ns) a.1 a.2.1 a.2.2 = 0 := by simpa using hc
  refine ⟨_, ty1, p1.2.trans hb1, by simp, ?_⟩
  have e1 : setR [Value.slice C k e, .slice C' k' e'] 0 [Value.slice E j i, .slice E' j' i'] = [Value.slice E j i, .slice E' j' i'] := rfl
  rw [e1]
  refine ⟨B, _, d, by rw [cl_off h.ne.symm, cl_cells (p8.2.trans hb8)]; rfl, fun g10 hg10 => ?_⟩
  -- the heap with the new pair and the new act
  have hx6 : Ext H1 (upd g10 (.cells [Value.int .i64 a.1, .int .i64 a.2.1, .int .i64 a.2.2].toArray 28 (0, 0)) (upd g1 (.cells [Value.slice E j i, .slice E' j' i'].toArray ty1 (0, 0)) H4)) := (g4.upd p1.1).trans (Ext.new hg10)
  have hn10 : ∀ b, (upd g1 (.cells [Value.slice E j i, .slice E' j' i'].toArray ty1 (0, 0)) H4) b ≠ none → (upd g10 (.cells [Value.int .i64 a.1, .int .i64 a.2.1, .int .i64 a.2.2].toArray 28 (0, 0)) (upd g1 (.cells [Value.slice E j i, .slice E' j' i'].toArray ty1 (0, 0)) H4)) b = (upd g1 (.cells [Value.slice E j i, .slice E' j' i'].toArray ty1 (0, 0)) H4) b := fun b hb => upd_off (fun e => hb (e ▸ hg10))
  have a1 : (upd g10 (.cells [Value.int .i64 a.1, .int .i64 a.2.1, .int .i64 a.2.2].toArray 28 (0, 0)) (upd g1 (.cells [Value.slice E j i, .slice E' j' i'].toArray ty1 (0, 0)) H4)) g1 = some (.cells [Value.slice E j i, .slice E' j' i'].toArray ty1 (0, 0)) := by
    rw [hn10 g1 (by rw [upd_at]; simp), upd_at]
  have a8 : (upd g10 (.cells [Value.int .i64 a.1, .int .i64 a.2.1, .int .i64 a.2.2].toArray 28 (0, 0)) (upd g1 (.cells [Value.slice E j i, .slice E' j' i'].toArray ty1 (0, 0)) H4)) g8 = some (.cells [Value.slice B out.length d].toArray ty8 (0, 0)) := by
    have : (upd g1 (.cells [Value.slice E j i, .slice E' j' i'].toArray ty1 (0, 0)) H4) g8 = some (.cells [Value.slice B out.length d].toArray ty8 (0, 0)) := by rw [upd_off h.ne.symm]; exact p8.2.trans hb8
    rw [hn10 g8 (by rw [this]; simp), this]
  have R := hrow4.keep (H' := upd g10 (.cells [Value.int .i64 a.1, .int .i64 a.2.1, .int .i64 a.2.2].toArray 28 (0, 0)) (upd g1 (.cells [Value.slice E j i, .slice E' j' i'].toArray ty1 (0, 0)) H4)) fun b hb => by
    have h1 : (upd g1 (.cells [Value.slice E j i, .slice E' j' i'].toArray ty1 (0, 0)) H4) b = H4 b := upd_off (hnr4 b hb).2.1
    rw [hn10 b (by rw [h1]; exact (hrow4.lt hb).1), h1]
  refine R.append (new := actC a) ((h.x0.trans g1').trans hx6) (.inr ⟨g10, 0, rfl, fun j v hj => by rw [cl_cells upd_at, Nat.zero_add]; exact hj⟩) rfl act_one (by omega) (by omega) ?_
  intro B' d' H7 hrow7 hx7 hch hnew _
  have keep : ∀ b, (upd g10 (.cells [Value.int .i64 a.1, .int .i64 a.2.1, .int .i64 a.2.2].toArray 28 (0, 0)) (upd g1 (.cells [Value.slice E j i, .slice E' j' i'].toArray ty1 (0, 0)) H4)) b ≠ none → ¬ rowB B b → H7 b = _ := fun b h1 h2 => Classical.byContradiction fun h3 => by
    rcases (hch b h3).2 with h4 | h4
    · exact h2 h4
    · exact h1 h4
  have k1 := keep g1 (by rw [a1]; simp) (fun hb => (hnr4 g1 hb).2.1 rfl)
  have k8 := keep g8 (by rw [a8]; simp) (fun hb => (hnr4 g8 hb).2.2 rfl)
  have hB' : ∀ b, rowB B' b → H1 b = none ∧ b ≠ g1 ∧ b ≠ g8 := fun b hb => by
    rcases hnew b hb with h1 | h1
    · exact hnr4 b h1
    · exact ⟨hx6.none h1, fun e => (by rw [e, a1] at h1; cases h1), fun e => (by rw [e, a8] at h1; cases h1)⟩
  refine ⟨_, ty8, k8.trans a8, by simp, hyes hc0 _ ⟨H1, E, j, i, E', j', i', l2, ns2, B', d', h.x0.trans g1', fun b o hb => ?_, g2, g3, ⟨ty1, ?_⟩, ⟨ty8, ?_⟩, ?_, p1.1, p8.1, h.ne, hB'⟩⟩
  · have h1 := hx6 b o hb
    rw [upd_off (fun e => by rw [e, p8.1] at hb; cases hb), keep b (by rw [h1]; simp) (fun h2 => by rw [(hnr4 b h2).1] at hb; cases hb), h1]
  · rw [upd_off h.ne]
    exact k1.trans a1
  · rw [upd_at]; simp [setR]
  · rw [List.flatMap_append, List.length_append]
    have e3 : [a].flatMap actC = actC a := by simp
    rw [e3]
    exact hrow7.keep fun b hb => upd_off (hB' b hb).2.2
end
end Go.Proofs.Ytkkmoeimcedkgaa.Hw
