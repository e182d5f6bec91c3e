/- A range over a function, over a plain list of rows: what an iterator promises, what its caller owes. The iterator may keep state of its own in cells. After the kit's laws for ranges over functions. -/
import Derived.Test.YtmgoeokdlklabaaLib
import Derived.RangeFuncNested
import Derived.RangeFuncBound
import Derived.RangeFuncCalls
import Derived.RangeFuncLeaves
import Derived.RangeFuncWrites
import Derived.Shelf.Abstract
import Derived.Shelf.RegionOpen
import Derived.TacticsInMore
import Derived.LoopNIn
import Derived.LoopIn
namespace Go.Proofs.Ytmgoeokdlklabaa
open Go.RowKit
set_option linter.unusedVariables false

/-- Only blocks of T, and new ones, have turned. -/
structure Only (T : Nat → Prop) (A B : World) : Prop where
  os : B.os = A.os
  tape : B.tape = A.tape
  output : B.output = A.output
  size : A.heap.size ≤ B.heap.size
  block : ∀ k, k < A.heap.size → ¬ T k → B.heap[k]? = A.heap[k]?
theorem Only.refl (T : Nat → Prop) (A : World) : Only T A A := ⟨rfl, rfl, rfl, Nat.le_refl _, fun _ _ _ => rfl⟩
theorem Only.trans {T : Nat → Prop} {A B C : World} (h : Only T A B) (k : Only T B C) : Only T A C :=
  ⟨k.os.trans h.os, k.tape.trans h.tape, k.output.trans h.output, Nat.le_trans h.size k.size, fun i hi hT => (k.block i (Nat.lt_of_lt_of_le hi h.size) hT).trans (h.block i hi hT)⟩
theorem Only.mono {T T' : Nat → Prop} {A B : World} (h : Only T A B) (hT : ∀ k, k < A.heap.size → T k → T' k) : Only T' A B :=
  ⟨h.os, h.tape, h.output, h.size, fun i hi hn => h.block i hi fun ht => hn (hT i hi ht)⟩
theorem Only.alloc {T : Nat → Prop} {A B : World} (h : Only T A B) (o : Obj) : Only T A (B.alloc o) :=
  h.trans ⟨rfl, rfl, rfl, by simp, fun k hk _ => Below.heap_alloc _ _ _ hk⟩
theorem Only.drew {T : Nat → Prop} {A B : World} (h : Only T A B) : Only T A B.drew := ⟨h.os, h.tape, h.output, h.size, h.block⟩
theorem Only.setCell {T : Nat → Prop} {A B : World} (h : Only T A B) {p : Addr} (hp : T p.block ∨ A.heap.size ≤ p.block) (u : Value) : Only T A (B.setCell p u) := by
  refine ⟨h.os, h.tape, h.output, by simpa [World.setCell] using h.size, fun k hk hT => ?_⟩
  rw [Below.heap_setCell _ _ _ _ (by rcases hp with hp | hp <;> first | omega | exact fun e => hT (e ▸ hp))]
  exact h.block k hk hT
theorem Only.below {T : Nat → Prop} {A B C : World} (h : Only T A B) (k : Below B.heap.size B C) : Only T A C :=
  h.trans ⟨k.os, k.tape, k.output, k.size, fun i hi _ => k.block i hi⟩
theorem Only.grown {T : Nat → Prop} {A B C : World} {row : Option Nat} (h : Only T A B) (k : B.grownBy C row) (hr : ∀ r, row = some r → T r ∨ A.heap.size ≤ r) : Only T A C := by
  refine ⟨k.os.trans h.os, k.tape.trans h.tape, k.output.trans h.output, Nat.le_trans h.size k.size, fun i hi hT => ?_⟩
  rw [k.block i (Nat.lt_of_lt_of_le hi h.size) (fun e => by rcases hr i e.symm with h' | h' <;> first | omega | exact hT h')]
  exact h.block i hi hT
theorem Below.only {n : Nat} {T : Nat → Prop} {w A B : World} (h : Below n w A) (k : Only T A B) (hn : n ≤ w.heap.size) (hT : ∀ b, T b → n ≤ b) : Below n w B :=
  h.trans ⟨k.os, k.tape, k.output, k.size, fun i hi => k.block i (by have := h.size; omega) (fun t => by have := hT i t; omega)⟩
theorem Below.put {n : Nat} {w A : World} (h : Below n w A) (hn : n ≤ w.heap.size) {l : Nat} {o : Obj} (hl : A.heap[l]? = some o) (hN : n ≤ l) (o' : Obj) : Below n w (A.putObj l o') :=
  h.grown (grownBy_putObj' A l o') (by have := h.size; omega) (fun k e => by cases e; exact hN)
theorem block_put {A : World} {b l : Nat} {o o' : Obj} {x : Option Obj} (h : A.heap[b]? = x) (hne : b ≠ l) : (A.putObj l o').heap[b]? = x := (World.putObj_heap_other hne).trans h
theorem box_put {A : World} {b l : Nat} {o o' : Obj} {c : Array Value} {e : TypeId} {z : Nat × Nat} (h : A.heap[b]? = some (.cells c e z)) (hl : A.heap[l]? = some o) (ho : o.isCells = false) : (A.putObj l o').heap[b]? = some (.cells c e z) :=
  (World.putObj_heap_other (by intro e'; subst e'; rw [h] at hl; cases hl; cases ho)).trans h
theorem box_only {T : Nat → Prop} {A B : World} {b : Nat} {o : Obj} (h : A.heap[b]? = some o) (k : Only T A B) (hT : ¬ T b) : B.heap[b]? = some o :=
  (k.block b (lt_of_block h) hT).trans h
theorem OwnN.only {T : Nat → Prop} {E : TypeId} {k : IntKind} {A B : World} {base cap : Nat} {a : Option Addr} {l : List Nat} (h : OwnN E k A base a cap l) (ho : Only T A B) (hT : ∀ b, base ≤ b → ¬ T b) : OwnN E k B base a cap l := by
  refine ⟨h.1, ?_⟩
  rcases h.2 with h2 | ⟨g, c, cur, h1, h2, h3, h4⟩
  · exact .inl h2
  · exact .inr ⟨g, c, cur, h1, h2, box_only h3 ho (hT g h2), h4⟩
theorem OwnN.put {E : TypeId} {k : IntKind} {A : World} {base cap : Nat} {a : Option Addr} {l : List Nat} (h : OwnN E k A base a cap l) {r : Nat} {o : Obj} (hl : A.heap[r]? = some o) (ho : o.isCells = false) (o' : Obj) : OwnN E k (A.putObj r o') base a cap l := by
  refine ⟨h.1, ?_⟩
  rcases h.2 with h2 | ⟨g, c, cur, h1, h2, h3, h4⟩
  · exact .inl h2
  · exact .inr ⟨g, c, cur, h1, h2, box_put h3 hl ho, h4⟩
theorem OwnI.only {T : Nat → Prop} {E : TypeId} {k : IntKind} {A B : World} {base cap : Nat} {a : Option Addr} {l : List Int} (h : OwnI E k A base a cap l) (ho : Only T A B) (hT : ∀ b, base ≤ b → ¬ T b) : OwnI E k B base a cap l := by
  refine ⟨h.1, ?_⟩
  rcases h.2 with h2 | ⟨g, c, cur, h1, h2, h3, h4⟩
  · exact .inl h2
  · exact .inr ⟨g, c, cur, h1, h2, box_only h3 ho (hT g h2), h4⟩
theorem OwnI.put {E : TypeId} {k : IntKind} {A : World} {base cap : Nat} {a : Option Addr} {l : List Int} (h : OwnI E k A base a cap l) {r : Nat} {o : Obj} (hl : A.heap[r]? = some o) (ho : o.isCells = false) (o' : Obj) : OwnI E k (A.putObj r o') base a cap l := by
  refine ⟨h.1, ?_⟩
  rcases h.2 with h2 | ⟨g, c, cur, h1, h2, h3, h4⟩
  · exact .inl h2
  · exact .inr ⟨g, c, cur, h1, h2, box_put h3 hl ho, h4⟩

/-- What lies in the blocks of S is as it was. -/
structure SameOn (S : Nat → Prop) (A B : World) : Prop where
  size : A.heap.size ≤ B.heap.size
  same : ∀ b, S b → B.heap[b]? = A.heap[b]?
theorem SameOn.refl (S : Nat → Prop) (A : World) : SameOn S A A := ⟨Nat.le_refl _, fun _ _ => rfl⟩
theorem SameOn.trans {S : Nat → Prop} {A B C : World} (h : SameOn S A B) (k : SameOn S B C) : SameOn S A C := ⟨Nat.le_trans h.size k.size, fun b hb => (k.same b hb).trans (h.same b hb)⟩
theorem Only.sameOn {S T : Nat → Prop} {A B : World} (h : Only T A B) (hS : ∀ b, S b → b < A.heap.size ∧ ¬ T b) : SameOn S A B := ⟨h.size, fun b hb => h.block b (hS b hb).1 (hS b hb).2⟩

/-- The contract of an iterator that hands out these rows: S: its data, which a round must keep; T: cells of its own that it writes. -/
def Yields (P : Program) (gf : Nat) (lb : Array Value) (n : Nat) (row : Nat → Array Value) (S T : Nat → Prop) (w : World) : Prop :=
  ∀ (l : Nat) (J Jx : Nat → World → Prop) (W : World), SameOn S w W →
    (∀ i A B, J i A → Only T A B → J i B) → (∀ i A B, Jx i A → Only T A B → Jx i B) →
    (∀ i A, i < n → J i A → YieldAt Fence.wide 9 P l (row i) A fun e B =>
      (e = .returned (.bool true) ∧ J (i + 1) B ∧ SameOn S A B) ∨ (e = .returned (.bool false) ∧ Jx (i + 1) B)) →
    J 0 W →
    CallsIn Fence.wide 9 P gf (#[.func (.yield l) #[] #[]] ++ lb) W fun e B => (∃ v, e = .returned v) ∧ (J n B ∨ ∃ i, i < n ∧ Jx (i + 1) B)

/-- How a round's body may be left. -/
def roundEnds (N : Nat) (S : Nat → Prop) (I : Nat → World → Prop) (Ix : Code → Nat → World → Prop) (i : Nat) (A : World) : Exit → Act → World → Prop
  | .normal, _, B => KeepsFrom N A B ∧ SameOn S A B ∧ I (i + 1) B
  | .ret, _, B => KeepsFrom N A B ∧ Ix .ret (i + 1) B
  | .exit id, _, B => KeepsFrom N A B ∧ Ix (.exit id) (i + 1) B
  | .goto t, _, B => KeepsFrom N A B ∧ Ix (.goto t) (i + 1) B
  | .panic _, _, _ => False
  | .outgrown, _, _ => False

theorem wide_yield {n m : Nat} {P : Program} {l : Nat} {args : Array Value} {W : World} {R : Ending → World → Prop} (h : YieldAt Fence.wide n P l args W R) : YieldAt Fence.wide m P l args W R := by
  obtain ⟨fn, tmps, assign, body, hy, hF, hR⟩ := h
  exact ⟨fn, tmps, assign, body, hy, hF, fun c cs _ => hR c cs (room_wide _)⟩

theorem range_law {P : Program} {g : Operand} {ps : Array Tmp} {assign body : Code} {Q : Exit → Act → World → Prop} {a : Act} {w : World}
    {gf : Nat} {lb : Array Value} (hg : a.eval g = .func (.func gf) #[] lb) (eg : ∀ args w, (callFunc gf args).run P w = .ok (.enter gf args) w)
    {n : Nat} {row : Nat → Array Value} {S T : Nat → Prop} {w0 : World} (hy : Yields P gf lb n row S T w0) (hsame : SameOn S w0 w) (hS : ∀ b, S b → b < w.heap.size) (hT : ∀ b, T b → b < w.heap.size)
    (hps : ∀ i, (row i).size = ps.size)
    (I : Nat → World → Prop) (Ix : Code → Nat → World → Prop)
    (hI : ∀ i A B, I i A → Only T A B → I i B) (hIp : ∀ i A l o o', I i A → w.heap.size ≤ l → A.heap[l]? = some o → o.isCells = false → I i (A.putObj l o'))
    (hX : ∀ c i A B, Ix c i A → Only T A B → Ix c i B) (hXp : ∀ c i A l o o', Ix c i A → w.heap.size ≤ l → A.heap[l]? = some o → o.isCells = false → Ix c i (A.putObj l o'))
    (h0 : I 0 w) (a₁ : Nat → Act)
    (hassign : ∀ (l i : Nat) (W : World) (K : Act → World → Prop), K (a₁ i) W →
      assign.wpIn (Fence.wide.inRound l) 9 P (Exit.then K (fun _ _ _ => False)) { tmps := (ps.zip (row i)).foldl (fun t (p, v) => t.setIfInBounds p v) a.tmps, defers := [] } W)
    (hbody : ∀ (l i : Nat) (hi : i < n) (A : World), w.heap.size + 2 ≤ A.heap.size → I i A → body.wpIn (Fence.wide.inRound l) 9 P (roundEnds w.heap.size S I Ix i A) (a₁ i) A)
    (hdone : ∀ (A : World), I n A → A.heap[w.heap.size]? = some (.deferred (some [])) → Q .normal { a with defers := { target := .collected w.heap.size, args := #[] } :: a.defers } A)
    (hstop : ∀ (c : Code) (i : Nat) (A : World), i < n → Ix c (i + 1) A → A.heap[w.heap.size]? = some (.deferred (some [])) → c.wpIn Fence.wide 9 P Q { a with defers := { target := .collected w.heap.size, args := #[] } :: a.defers } A) :
    (Code.rangeFunc g ps assign body).wpIn Fence.wide 9 P Q a w := by
  refine wpIn_rangeFunc ?_
  intro fn hfn
  obtain ⟨rec, hrec⟩ : ∃ rec : LoopState → Option Code → Loop, rec = fun st pe => { state := st, pending := pe, fn, tmps := a.tmps, params := ps, assign, body, defers := w.heap.size } := ⟨_, rfl⟩
  obtain ⟨W1, hW1⟩ : ∃ W1, (w.alloc (.deferred (some []))).alloc (.loop (rec .ready none)) = W1 := ⟨_, rfl⟩
  have hs1 : W1.heap.size = w.heap.size + 2 := by rw [← hW1]; simp
  have hL1 : W1.heap[w.heap.size + 1]? = some (.loop (rec .ready none)) := by
    rw [← hW1]; have := World.alloc_heap_new (w.alloc (.deferred (some []))) (.loop (rec .ready none)); rwa [World.size_alloc] at this
  have hK1 : W1.heap[w.heap.size]? = some (.deferred (some [])) := by
    rw [← hW1]; exact (Below.heap_alloc _ _ _ (by simp)).trans (World.alloc_heap_new w _)
  have hI1 : I 0 W1 := hI 0 w W1 h0 (by rw [← hW1]; exact ((Only.refl T w).alloc _).alloc _)
  have hsame1 : SameOn S w0 W1 := ⟨by have := hsame.size; omega, fun b hb => by
    rw [← hW1, Below.heap_alloc _ _ _ (by have := hS b hb; simp; omega), Below.heap_alloc _ _ _ (hS b hb)]
    exact hsame.same b hb⟩
  refine ⟨w.heap.size + 1, [{ target := .collected w.heap.size, args := #[] }], W1, { target := .fn (.func gf) lb, args := #[.func (.yield (w.heap.size + 1)) #[] #[]] }, W1, gf,
    #[.func (.yield (w.heap.size + 1)) #[] #[]] ++ lb, W1, ?_, ?_, ?_, ?_, fun h => by simp [Fence.wide] at h, ?_⟩
  · rw [← hW1, hrec]; exact run_enterLoop_outer _ _ _ _ _
  · simp only [resolve, hg]
    simp [go_sem]
  · intro f' hf'; trivial
  · simp [invoke, go_sem, eg]
  · have hyy := hy (w.heap.size + 1)
      (fun i A => I i A ∧ w.heap.size + 2 ≤ A.heap.size ∧ A.heap[w.heap.size + 1]? = some (.loop (rec .ready none)) ∧ A.heap[w.heap.size]? = some (.deferred (some [])))
      (fun i A => ∃ c, Ix c i A ∧ A.heap[w.heap.size + 1]? = some (.loop (rec .done (some c))) ∧ A.heap[w.heap.size]? = some (.deferred (some [])))
      W1 hsame1
      (fun i A B h ho => ⟨hI i A B h.1 ho, Nat.le_trans h.2.1 ho.size, box_only h.2.2.1 ho (fun t => by have := hT _ t; omega), box_only h.2.2.2 ho (fun t => by have := hT _ t; omega)⟩)
      (fun i A B h ho => by
        obtain ⟨c, hc, hl, hk⟩ := h
        exact ⟨c, hX c i A B hc ho, box_only hl ho (fun t => by have := hT _ t; omega), box_only hk ho (fun t => by have := hT _ t; omega)⟩)
      ?_ ⟨hI1, by omega, hL1, hK1⟩
    · refine (callsIn_wide.2 (callsIn_wide.1 hyy)).mono ?_
      rintro e W2 ⟨⟨v, rfl⟩, (⟨hi, _, hl, hk⟩ | ⟨i, hlt, c, hi, hl, hk⟩)⟩
      · exact ⟨none, _, by have := run_endLoop (P := P) hl (by rw [hrec]; simp); rw [hrec] at this; exact this, hdone _ (hIp _ _ _ _ _ hi (by omega) hl rfl) ((World.putObj_heap_other (by omega)).trans hk)⟩
      · exact ⟨some c, _, by have := run_endLoop (P := P) hl (by rw [hrec]; simp); rw [hrec] at this; exact this, hstop c i _ hlt (hXp _ _ _ _ _ _ hi (by omega) hl rfl) ((World.putObj_heap_other (by omega)).trans hk)⟩
    · rintro i W hi ⟨hii, hsz, hl, hk⟩
      have hy' := run_yield (P := P) (args := row i) hl (by rw [hrec]; exact hps _)
      rw [hrec] at hy'
      refine wide_yield (n := 9) ⟨fn, _, assign, body, hy', roundIn_of_wpIn hfn (hassign _ i W _ ⟨_, run_beginRound hl (by rw [hrec]), ?_⟩)⟩
      have hlt : w.heap.size + 1 < W.heap.size := by omega
      have hl2 : (W.putObj (w.heap.size + 1) (.loop { rec .ready none with state := .busy })).heap[w.heap.size + 1]? = some (.loop { rec .ready none with state := .busy }) := World.putObj_heap_same hlt
      have hk2 : (W.putObj (w.heap.size + 1) (.loop { rec .ready none with state := .busy })).heap[w.heap.size]? = some (.deferred (some [])) := (World.putObj_heap_other (by omega)).trans hk
      have hS2 : ∀ (A : World) (o : Obj), SameOn S A (A.putObj (w.heap.size + 1) o) := fun A o => ⟨by rw [World.putObj_size]; exact Nat.le_refl _, fun b hb => World.putObj_heap_other (by have := hS b hb; omega)⟩
      refine wpIn_mono (hbody _ i hi _ (by rw [World.putObj_size]; exact hsz) (hIp _ _ _ _ _ hii (by omega) hl rfl)) ?_
      have fin : ∀ (jump : Option Code) (W3 : World), KeepsFrom w.heap.size (W.putObj (w.heap.size + 1) (.loop { rec .ready none with state := .busy })) W3 →
          (Instr.endRound (w.heap.size + 1) jump).run P W3 = .ok (.bool jump.isNone) (W3.putObj (w.heap.size + 1) (.loop (rec (if jump.isNone then .ready else .done) jump))) ∧
          W3.heap[w.heap.size + 1]? = some (.loop { rec .ready none with state := .busy }) ∧
          (W3.putObj (w.heap.size + 1) (.loop (rec (if jump.isNone then .ready else .done) jump))).heap[w.heap.size + 1]? = some (.loop (rec (if jump.isNone then .ready else .done) jump)) ∧
          (W3.putObj (w.heap.size + 1) (.loop (rec (if jump.isNone then .ready else .done) jump))).heap[w.heap.size]? = some (.deferred (some [])) ∧ w.heap.size + 2 ≤ (W3.putObj (w.heap.size + 1) (.loop (rec (if jump.isNone then .ready else .done) jump))).heap.size := fun jump W3 hk3 => by
        have hl3 := hk3.same _ _ (by omega) hl2 rfl
        have := run_endRound (P := P) jump hl3
        rw [hrec] at this ⊢
        exact ⟨this, by rw [hrec] at hl3; exact hl3, World.putObj_heap_same (Array.getElem?_eq_some_iff.1 hl3).1, (World.putObj_heap_other (by omega)).trans (hk3.same _ _ (by omega) hk2 rfl), by rw [World.putObj_size]; have := (Array.getElem?_eq_some_iff.1 hl3).1; omega⟩
      rintro e a3 W3 hp
      cases e with
      | normal =>
        obtain ⟨hk3, hkp3, hi3⟩ := hp
        obtain ⟨hr, hl3, hl4, hk4, hz4⟩ := fin none W3 hk3
        exact ⟨_, _, hr, .inl ⟨rfl, ⟨hIp _ _ _ _ _ hi3 (by omega) hl3 rfl, hz4, hl4, hk4⟩, ((hS2 _ _).trans hkp3).trans (hS2 _ _)⟩⟩
      | ret =>
        obtain ⟨hk3, hi3⟩ := hp
        obtain ⟨hr, hl3, hl4, hk4, _⟩ := fin (some .ret) W3 hk3
        exact ⟨_, _, hr, .inr ⟨rfl, .ret, hXp _ _ _ _ _ _ hi3 (by omega) hl3 rfl, hl4, hk4⟩⟩
      | exit id =>
        obtain ⟨hk3, hi3⟩ := hp
        obtain ⟨hr, hl3, hl4, hk4, _⟩ := fin (some (.exit id)) W3 hk3
        exact ⟨_, _, hr, .inr ⟨rfl, .exit id, hXp _ _ _ _ _ _ hi3 (by omega) hl3 rfl, hl4, hk4⟩⟩
      | goto t =>
        obtain ⟨hk3, hi3⟩ := hp
        obtain ⟨hr, hl3, hl4, hk4, _⟩ := fin (some (.goto t)) W3 hk3
        exact ⟨_, _, hr, .inr ⟨rfl, .goto t, hXp _ _ _ _ _ _ hi3 (by omega) hl3 rfl, hl4, hk4⟩⟩
      | panic ch => exact hp.elim
      | outgrown => exact hp.elim
end Go.Proofs.Ytmgoeokdlklabaa
