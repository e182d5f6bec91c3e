/- A range over a function whose loop variables lie in cells: the assignment of a round may make memory. -/
import Derived.Test.YtlofoocgiomfbaaRange
namespace Go.Proofs.Ytlofoocgiomfbaa
open Go.RowKit
set_option linter.unusedVariables false

theorem range_law2 {P : Program} {g : Operand} {ps : Array Tmp} {assign body : Code} {Q : Exit → Act → World → Prop} {a : Act} {w : World}
    {gf : Nat} {lb : Array Value} (hg : a.eval g = .func (.func gf) #[] lb) (eg : ∀ args w, (callFunc gf args).run P w = .ok (.enter gf args) w)
    {n : Nat} {row : Nat → Array Value} {S T : Nat → Prop} {w0 : World} (hy : Yields P gf lb n row S T w0) (hsame : SameOn S w0 w) (hS : ∀ b, S b → b < w.heap.size) (hT : ∀ b, T b → b < w.heap.size)
    (hps : ∀ i, (row i).size = ps.size)
    (I : Nat → World → Prop) (Ix : Code → Nat → World → Prop)
    (hI : ∀ i A B, I i A → Only T A B → I i B) (hIp : ∀ i A l o o', I i A → w.heap.size ≤ l → A.heap[l]? = some o → o.isCells = false → I i (A.putObj l o'))
    (hX : ∀ c i A B, Ix c i A → Only T A B → Ix c i B) (hXp : ∀ c i A l o o', Ix c i A → w.heap.size ≤ l → A.heap[l]? = some o → o.isCells = false → Ix c i (A.putObj l o'))
    (h0 : I 0 w) (Ax : Nat → Act → World → Prop)
    (hAp : ∀ i a' A l o o', Ax i a' A → w.heap.size ≤ l → A.heap[l]? = some o → o.isCells = false → Ax i a' (A.putObj l o'))
    (hassign : ∀ (l i : Nat) (W : World) (K : Act → World → Prop), i < n → w.heap.size + 2 ≤ W.heap.size → I i W → (∀ a' W', KeepsFrom w.heap.size W W' → SameOn S W W' → Ax i a' W' → K a' W') →
      assign.wpIn (Fence.wide.inRound l) 9 P (Exit.then K (fun _ _ _ => False)) { tmps := (ps.zip (row i)).foldl (fun t (p, v) => t.setIfInBounds p v) a.tmps, defers := [] } W)
    (hbody : ∀ (l i : Nat) (hi : i < n) (a' : Act) (A : World), w.heap.size + 2 ≤ A.heap.size → Ax i a' A → body.wpIn (Fence.wide.inRound l) 9 P (roundEnds w.heap.size S I Ix i A) a' A)
    (hdone : ∀ (A : World), I n A → A.heap[w.heap.size]? = some (.deferred (some [])) → Q .normal { a with defers := { target := .collected w.heap.size, args := #[] } :: a.defers } A)
    (hstop : ∀ (c : Code) (i : Nat) (A : World), i < n → Ix c (i + 1) A → A.heap[w.heap.size]? = some (.deferred (some [])) → c.wpIn Fence.wide 9 P Q { a with defers := { target := .collected w.heap.size, args := #[] } :: a.defers } A) :
    (Code.rangeFunc g ps assign body).wpIn Fence.wide 9 P Q a w := by
  refine wpIn_rangeFunc ?_
  intro fn hfn
  obtain ⟨rec, hrec⟩ : ∃ rec : LoopState → Option Code → Loop, rec = fun st pe => { state := st, pending := pe, fn, tmps := a.tmps, params := ps, assign, body, defers := w.heap.size } := ⟨_, rfl⟩
  obtain ⟨W1, hW1⟩ : ∃ W1, (w.alloc (.deferred (some []))).alloc (.loop (rec .ready none)) = W1 := ⟨_, rfl⟩
  have hs1 : W1.heap.size = w.heap.size + 2 := by rw [← hW1]; simp
  have hL1 : W1.heap[w.heap.size + 1]? = some (.loop (rec .ready none)) := by
    rw [← hW1]; have := World.alloc_heap_new (w.alloc (.deferred (some []))) (.loop (rec .ready none)); rwa [World.size_alloc] at this
  have hK1 : W1.heap[w.heap.size]? = some (.deferred (some [])) := by
    rw [← hW1]; exact (Below.heap_alloc _ _ _ (by simp)).trans (World.alloc_heap_new w _)
  have hI1 : I 0 W1 := hI 0 w W1 h0 (by rw [← hW1]; exact ((Only.refl T w).alloc _).alloc _)
  have hsame1 : SameOn S w0 W1 := ⟨by have := hsame.size; omega, fun b hb => by
    rw [← hW1, Below.heap_alloc _ _ _ (by have := hS b hb; simp; omega), Below.heap_alloc _ _ _ (hS b hb)]
    exact hsame.same b hb⟩
  refine ⟨w.heap.size + 1, [{ target := .collected w.heap.size, args := #[] }], W1, { target := .fn (.func gf) lb, args := #[.func (.yield (w.heap.size + 1)) #[] #[]] }, W1, gf,
    #[.func (.yield (w.heap.size + 1)) #[] #[]] ++ lb, W1, ?_, ?_, ?_, ?_, fun h => by simp [Fence.wide] at h, ?_⟩
  · rw [← hW1, hrec]; exact run_enterLoop_outer _ _ _ _ _
  · simp only [resolve, hg]
    simp [go_sem]
  · intro f' hf'; trivial
  · simp [invoke, go_sem, eg]
  · have hyy := hy (w.heap.size + 1)
      (fun i A => I i A ∧ w.heap.size + 2 ≤ A.heap.size ∧ A.heap[w.heap.size + 1]? = some (.loop (rec .ready none)) ∧ A.heap[w.heap.size]? = some (.deferred (some [])))
      (fun i A => ∃ c, Ix c i A ∧ A.heap[w.heap.size + 1]? = some (.loop (rec .done (some c))) ∧ A.heap[w.heap.size]? = some (.deferred (some [])))
      W1 hsame1
      (fun i A B h ho => ⟨hI i A B h.1 ho, Nat.le_trans h.2.1 ho.size, box_only h.2.2.1 ho (fun t => by have := hT _ t; omega), box_only h.2.2.2 ho (fun t => by have := hT _ t; omega)⟩)
      (fun i A B h ho => by
        obtain ⟨c, hc, hl, hk⟩ := h
        exact ⟨c, hX c i A B hc ho, box_only hl ho (fun t => by have := hT _ t; omega), box_only hk ho (fun t => by have := hT _ t; omega)⟩)
      ?_ ⟨hI1, by omega, hL1, hK1⟩
    · refine (callsIn_wide.2 (callsIn_wide.1 hyy)).mono ?_
      rintro e W2 ⟨⟨v, rfl⟩, (⟨hi, _, hl, hk⟩ | ⟨i, hlt, c, hi, hl, hk⟩)⟩
      · exact ⟨none, _, by have := run_endLoop (P := P) hl (by rw [hrec]; simp); rw [hrec] at this; exact this, hdone _ (hIp _ _ _ _ _ hi (by omega) hl rfl) ((World.putObj_heap_other (by omega)).trans hk)⟩
      · exact ⟨some c, _, by have := run_endLoop (P := P) hl (by rw [hrec]; simp); rw [hrec] at this; exact this, hstop c i _ hlt (hXp _ _ _ _ _ _ hi (by omega) hl rfl) ((World.putObj_heap_other (by omega)).trans hk)⟩
    · rintro i W hi ⟨hii, hsz, hl, hk⟩
      have hy' := run_yield (P := P) (args := row i) hl (by rw [hrec]; exact hps _)
      rw [hrec] at hy'
      refine wide_yield (n := 9) ⟨fn, _, assign, body, hy', roundIn_of_wpIn hfn (hassign _ i W _ hi hsz hii fun a' W' hk0 hs0 hax => ⟨_, run_beginRound (hk0.same _ _ (by omega) hl rfl) (by rw [hrec]), ?_⟩)⟩
      replace hl := hk0.same _ _ (by omega) hl rfl
      replace hk := hk0.same _ _ (by omega) hk rfl
      have hlt : w.heap.size + 1 < W'.heap.size := by have := hk0.size; omega
      have hl2 : (W'.putObj (w.heap.size + 1) (.loop { rec .ready none with state := .busy })).heap[w.heap.size + 1]? = some (.loop { rec .ready none with state := .busy }) := World.putObj_heap_same hlt
      have hk2 : (W'.putObj (w.heap.size + 1) (.loop { rec .ready none with state := .busy })).heap[w.heap.size]? = some (.deferred (some [])) := (World.putObj_heap_other (by omega)).trans hk
      have hS2 : ∀ (A : World) (o : Obj), SameOn S A (A.putObj (w.heap.size + 1) o) := fun A o => ⟨by rw [World.putObj_size]; exact Nat.le_refl _, fun b hb => World.putObj_heap_other (by have := hS b hb; omega)⟩
      refine wpIn_mono (hbody _ i hi _ _ (by rw [World.putObj_size]; omega) (hAp _ _ _ _ _ _ hax (by omega) hl rfl)) ?_
      have fin : ∀ (jump : Option Code) (W3 : World), KeepsFrom w.heap.size (W'.putObj (w.heap.size + 1) (.loop { rec .ready none with state := .busy })) W3 →
          (Instr.endRound (w.heap.size + 1) jump).run P W3 = .ok (.bool jump.isNone) (W3.putObj (w.heap.size + 1) (.loop (rec (if jump.isNone then .ready else .done) jump))) ∧
          W3.heap[w.heap.size + 1]? = some (.loop { rec .ready none with state := .busy }) ∧
          (W3.putObj (w.heap.size + 1) (.loop (rec (if jump.isNone then .ready else .done) jump))).heap[w.heap.size + 1]? = some (.loop (rec (if jump.isNone then .ready else .done) jump)) ∧
          (W3.putObj (w.heap.size + 1) (.loop (rec (if jump.isNone then .ready else .done) jump))).heap[w.heap.size]? = some (.deferred (some [])) ∧ w.heap.size + 2 ≤ (W3.putObj (w.heap.size + 1) (.loop (rec (if jump.isNone then .ready else .done) jump))).heap.size := fun jump W3 hk3 => by
        have hl3 := hk3.same _ _ (by omega) hl2 rfl
        have := run_endRound (P := P) jump hl3
        rw [hrec] at this ⊢
        exact ⟨this, by rw [hrec] at hl3; exact hl3, World.putObj_heap_same (Array.getElem?_eq_some_iff.1 hl3).1, (World.putObj_heap_other (by omega)).trans (hk3.same _ _ (by omega) hk2 rfl), by rw [World.putObj_size]; have := (Array.getElem?_eq_some_iff.1 hl3).1; omega⟩
      rintro e a3 W3 hp
      cases e with
      | normal =>
        obtain ⟨hk3, hkp3, hi3⟩ := hp
        obtain ⟨hr, hl3, hl4, hk4, hz4⟩ := fin none W3 hk3
        exact ⟨_, _, hr, .inl ⟨rfl, ⟨hIp _ _ _ _ _ hi3 (by omega) hl3 rfl, hz4, hl4, hk4⟩, ((hs0.trans (hS2 _ _)).trans hkp3).trans (hS2 _ _)⟩⟩
      | ret =>
        obtain ⟨hk3, hi3⟩ := hp
        obtain ⟨hr, hl3, hl4, hk4, _⟩ := fin (some .ret) W3 hk3
        exact ⟨_, _, hr, .inr ⟨rfl, .ret, hXp _ _ _ _ _ _ hi3 (by omega) hl3 rfl, hl4, hk4⟩⟩
      | exit id =>
        obtain ⟨hk3, hi3⟩ := hp
        obtain ⟨hr, hl3, hl4, hk4, _⟩ := fin (some (.exit id)) W3 hk3
        exact ⟨_, _, hr, .inr ⟨rfl, .exit id, hXp _ _ _ _ _ _ hi3 (by omega) hl3 rfl, hl4, hk4⟩⟩
      | goto t =>
        obtain ⟨hk3, hi3⟩ := hp
        obtain ⟨hr, hl3, hl4, hk4, _⟩ := fin (some (.goto t)) W3 hk3
        exact ⟨_, _, hr, .inr ⟨rfl, .goto t, hXp _ _ _ _ _ _ hi3 (by omega) hl3 rfl, hl4, hk4⟩⟩
      | panic ch => exact hp.elim
      | outgrown => exact hp.elim
end Go.Proofs.Ytlofoocgiomfbaa
