/- inflate.Inflate: the deferred closure: contracts. -/
import Derived.Test.YtlofoocgiomfbaaDyn
namespace Go.Proofs.Ytlofoocgiomfbaa
open Go.RowKit Go.Shelf M01 M04 M09 M10
set_option linter.unusedVariables false

/-- the results' variables -/
def FRes (q : Nat) (A : World) (x0 x1 x2 x3 z : Value) : Prop := A.heap[q]? = some (.cells #[x0, x1, x2, x3] 39 (0, 0)) ∧ A.heap[q + 1]? = some (.cells #[z] 24 (0, 0))
theorem four_frozen {w : World} {b : Nat} {x y z u : Value} {t : TypeId} (h : w.heap[b]? = some (.cells #[x, y, z, u] t (0, 0))) : w.frozen? ⟨b, 0, none⟩ = false ∧ w.frozen? ⟨b, 1, none⟩ = false ∧ w.frozen? ⟨b, 2, none⟩ = false ∧ w.frozen? ⟨b, 3, none⟩ = false := by
  simp [World.frozen?, h]
/-- four cells and one are set -/
def setF (q : Nat) (A : World) (x0 x1 x2 x3 z : Value) : World := ((((A.setCell ⟨q, 0, none⟩ x0).setCell ⟨q, 1, none⟩ x1).setCell ⟨q, 2, none⟩ x2).setCell ⟨q, 3, none⟩ x3).setCell ⟨q + 1, 0, none⟩ z
theorem set_at {A : World} {b i : Nat} {cs : Array Value} {x : Value} {t : TypeId} (h : A.heap[b]? = some (.cells cs t (0, 0))) : (A.setCell ⟨b, i, none⟩ x).heap[b]? = some (.cells (cs.setIfInBounds i x) t (0, 0)) := by
  show (A.heap.modify b _)[b]? = _
  rw [Array.getElem?_modify, if_pos rfl, h]; rfl
theorem set_four {A : World} {b : Nat} {y0 y1 y2 y3 : Value} {t : TypeId} (h : A.heap[b]? = some (.cells #[y0, y1, y2, y3] t (0, 0))) (x0 x1 x2 x3 : Value) :
    ((((A.setCell ⟨b, 0, none⟩ x0).setCell ⟨b, 1, none⟩ x1).setCell ⟨b, 2, none⟩ x2).setCell ⟨b, 3, none⟩ x3).heap[b]? = some (.cells #[x0, x1, x2, x3] t (0, 0)) := by
  have := set_at (i := 3) (x := x3) (set_at (i := 2) (x := x2) (set_at (i := 1) (x := x1) (set_at (i := 0) (x := x0) h)))
  simpa using this
theorem FRes.set {q : Nat} {A : World} {y0 y1 y2 y3 y : Value} (h : FRes q A y0 y1 y2 y3 y) (x0 x1 x2 x3 z : Value) : FRes q (setF q A x0 x1 x2 x3 z) x0 x1 x2 x3 z := by
  obtain ⟨h1, h2⟩ := h
  unfold setF
  refine ⟨?_, ?_⟩
  · rw [Below.heap_setCell _ _ _ _ (by show q ≠ q + 1; omega)]
    exact set_four h1 x0 x1 x2 x3
  · refine set_one (u := y) ?_
    rw [Below.heap_setCell _ _ _ _ (by show q + 1 ≠ q; omega), Below.heap_setCell _ _ _ _ (by show q + 1 ≠ q; omega), Below.heap_setCell _ _ _ _ (by show q + 1 ≠ q; omega), Below.heap_setCell _ _ _ _ (by show q + 1 ≠ q; omega)]
    exact h2
theorem setF_only {T : Nat → Prop} {q : Nat} {w A : World} (h : Only T w A) (hq : w.heap.size ≤ q) (x0 x1 x2 x3 z : Value) : Only T w (setF q A x0 x1 x2 x3 z) :=
  ((((h.setCell (p := ⟨q, 0, none⟩) (.inr hq) _).setCell (p := ⟨q, 1, none⟩) (.inr hq) _).setCell (p := ⟨q, 2, none⟩) (.inr hq) _).setCell (p := ⟨q, 3, none⟩) (.inr hq) _).setCell (p := ⟨q + 1, 0, none⟩) (.inr (by show w.heap.size ≤ q + 1; omega)) _
theorem infl_catch (p : Nat) (x0 x1 x2 x3 z : Value) (w : World) (h : FRes p w x0 x1 x2 x3 z) :
    CallsD Try.prog 35 #[.pointer (some ⟨p, 0, none⟩), .pointer (some ⟨p + 1, 0, none⟩)] (.panicking formP) w fun e u' w' =>
      e = .returned (.tuple #[]) ∧ u' = .panicking [{ v := .iface 24 (.int .i64 2), recovered := true }] ∧ w' = setF p w (.slice none 0 0) (.int .i64 0) (.int .i64 0) (.bool false) (.int .i64 2) := by
  unfold formP
  obtain ⟨h1, h2⟩ := h
  refine callsD_of_wpS Try.func35 rfl fun c₀ cs hu => ?_
  obtain ⟨f0, f1, f2, f3⟩ := four_frozen h1
  obtain ⟨c0, c1, c2, c3, _, _⟩ := four_cells h1
  have g4 : w.cell? ⟨p + 1, 0, none⟩ = some z := cell_of_one h2
  have f4 : w.frozen? ⟨p + 1, 0, none⟩ = false := by simp [World.frozen?, h2]
  have te := ta_err 2
  unfold setF
  apply wpS_seq
  apply wpS_region
  simp [wpOpsS, go_sem, recoverD, hu, te, Try.ntmps35, Exit.thenS]
  apply wpS_seq
  apply wpS_region
  simp [wpOpsS, go_sem, Exit.thenS]
  refine wpS_cond (t := true) (by simp [Act.eval, Array.replicate]) ?_
  simp only [if_true]
  apply wpS_region
  simp [wpOpsS, go_sem, c0, c1, c2, c3, g4, f0, f1, f2, f3, f4, bodyPostS, results, Try.results35]
theorem infl_catch_idle (p q : Nat) (w : World) :
    CallsD Try.prog 35 #[.pointer (some ⟨p, 0, none⟩), .pointer (some ⟨q, 0, none⟩)] .returning w fun e u' w' =>
      e = .returned (.tuple #[]) ∧ u' = .returning ∧ w' = w := by
  refine callsD_of_wpS Try.func35 rfl fun c₀ cs hu => ?_
  apply wpS_seq
  apply wpS_region
  have te := ta_nil
  simp [wpOpsS, go_sem, recoverD, hu, te, Try.ntmps35, Exit.thenS]
  apply wpS_seq
  apply wpS_region
  simp [wpOpsS, go_sem, Exit.thenS]
  refine wpS_cond (t := false) (by simp [Act.eval, Array.replicate]) ?_
  simp only [Bool.false_eq_true, if_false]
  refine wpS_of_wp (wp_skip ?_)
  cases c₀
  simp_all [bodyPostS, results, Try.results35]
/-- what Inflate answers -/
def InflOut (keep : Nat) (R : Option (Nat × List Nat)) (e : Ending) (w' : World) : Prop :=
  match R with
  | some (at2, o) => ∃ a c, e = .returned (.tuple #[.agg #[.slice a (o.take keep).length c, .int .i64 (o.length : Nat), .int .i64 ((at2 + 7) / 8 : Nat), .bool false], .int .i64 0]) ∧ RowN .u8 w' a c (o.take keep)
  | none => e = .returned (.tuple #[.agg #[.slice none 0 0, .int .i64 0, .int .i64 0, .bool false], .int .i64 2])
def idefr (q : Nat) : List Deferred := [{ target := Target.fn (Fn.func 35) #[.pointer (some ⟨q, 0, none⟩), .pointer (some ⟨q + 1, 0, none⟩)], args := #[] }]
theorem infl_idle {q : Nat} {A : World} {x0 x1 x2 x3 z : Value} {tmps : Array Value} {Rr : Ending → World → Prop} (h : FRes q A x0 x1 x2 x3 z) (t4 : tmps.getD 4 undef = .pointer (some ⟨q, 0, none⟩)) (t5 : tmps.getD 5 undef = .pointer (some ⟨q + 1, 0, none⟩))
    (hK : Rr (.returned (.tuple #[.agg #[x0, x1, x2, x3], z])) A) : bodyPostD Try.prog Try.f18 Rr .ret { tmps := tmps, defers := idefr q } A := by
  show Leaves _ _ _ _ (idefr q) .returning A
  unfold idefr
  refine leaves_cons (f := 35) (args := #[.pointer (some ⟨q, 0, none⟩), .pointer (some ⟨q + 1, 0, none⟩)]) (by simp) (by simp [go_sem]) ?_
  refine (infl_catch_idle q (q + 1) A).mono ?_
  rintro e u' w'' ⟨rfl, rfl, rfl⟩
  obtain ⟨h1, h2⟩ := h
  obtain ⟨c0, c1, c2, c3, _, _⟩ := four_cells h1
  have g4 := cell_of_one h2
  simp only [Leaves, settle]
  refine ⟨_, ?_, hK⟩
  have s4 : tmps[4]?.getD undef = .pointer (some ⟨q, 0, none⟩) := by simpa using t4
  have s5 : tmps[5]?.getD undef = .pointer (some ⟨q + 1, 0, none⟩) := by simpa using t5
  simp [results, Try.results18, go_sem, s4, s5, c0, c1, c2, c3, g4]
theorem infl_thrown {q : Nat} {A : World} {x0 x1 x2 x3 z : Value} {tmps : Array Value} {Rr : Ending → World → Prop} (h : FRes q A x0 x1 x2 x3 z) (t4 : tmps.getD 4 undef = .pointer (some ⟨q, 0, none⟩)) (t5 : tmps.getD 5 undef = .pointer (some ⟨q + 1, 0, none⟩))
    (hK : Rr (.returned (.tuple #[.agg #[.slice none 0 0, .int .i64 0, .int .i64 0, .bool false], .int .i64 2])) (setF q A (.slice none 0 0) (.int .i64 0) (.int .i64 0) (.bool false) (.int .i64 2))) : bodyPostD Try.prog Try.f18 Rr (.panic formP) { tmps := tmps, defers := idefr q } A := by
  show Leaves _ _ _ _ (idefr q) (.panicking formP) A
  unfold idefr
  refine leaves_cons (f := 35) (args := #[.pointer (some ⟨q, 0, none⟩), .pointer (some ⟨q + 1, 0, none⟩)]) (by simp) (by simp [go_sem]) ?_
  refine (infl_catch q x0 x1 x2 x3 z A h).mono ?_
  rintro e u' w'' ⟨rfl, rfl, rfl⟩
  obtain ⟨h1, h2⟩ := h.set (.slice none 0 0) (.int .i64 0) (.int .i64 0) (.bool false) (.int .i64 2)
  obtain ⟨c0, c1, c2, c3, _, _⟩ := four_cells h1
  have g4 := cell_of_one h2
  have s4 : tmps[4]?.getD undef = .pointer (some ⟨q, 0, none⟩) := by simpa using t4
  have s5 : tmps[5]?.getD undef = .pointer (some ⟨q + 1, 0, none⟩) := by simpa using t5
  generalize setF q A (.slice none 0 0) (.int .i64 0) (.int .i64 0) (.bool false) (.int .i64 2) = B at *
  simp only [settle]
  simp [Leaves, results, Try.results18, go_sem, s4, s5, c0, c1, c2, c3, g4, hK]
end Go.Proofs.Ytlofoocgiomfbaa
