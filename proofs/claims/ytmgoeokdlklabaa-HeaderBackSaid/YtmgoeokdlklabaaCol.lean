/- token.collect: what lies where while its region is under way. -/
import Derived.Test.YtmgoeokdlklabaaTok
import Derived.Maps.AppendAt
import Derived.Great.BuildSlice
namespace Go.Proofs.Ytmgoeokdlklabaa
open Go.RowKit Go.Shelf M08
attribute [local go_sem] Oper.semAt_some
set_option linter.unusedVariables false

theorem et_int : ElemTy Try.prog 59 3 .i64 8 := ⟨Try.underlying59, by kernel_rfl⟩
def colI (w : World) (R0 : Nat) (T : Nat → Prop) (fa fb : Nat → Nat) (i : Nat) (A : World) : Prop :=
  ∃ a1 c1 a2 c2, A.heap[R0 + 1]? = some (.cells #[.slice a1 i c1, .slice a2 i c2] 173 (0, 0)) ∧ OwnN 3 .i64 A (R0 + 2) a1 c1 ((List.range i).map fa) ∧ OwnN 3 .i64 A (R0 + 2) a2 c2 ((List.range i).map fb) ∧
    (∀ g, a1 = some ⟨g, 0, none⟩ → a2 ≠ some ⟨g, 0, none⟩) ∧ A.heap[R0]? = some (.cells #[.slice none 0 0, .slice none 0 0] 173 (0, 0)) ∧ Only T w A


def colBlk : Value → Option Nat
  | .slice (some a) _ _ => some a.block
  | _ => none
def apart (u v : Value) : Prop := ∀ b, colBlk u = some b → colBlk v ≠ some b
theorem apart.symm {u v : Value} (h : apart u v) : apart v u := fun b hb hc => h b hc hb
theorem apart.left {u v : Value} (h : colBlk u = none) : apart u v := fun b hb => by rw [h] at hb; cases hb
theorem ownBlock_eq (a : Option Addr) (n c : Nat) : (Value.slice a n c).ownBlock = colBlk (.slice a n c) := by cases a <;> rfl
def colNew (R N0 : Nat) (l : List Nat) (S v : Value) (w : World) : Prop := ∃ a c, v = .slice a l.length c ∧ OwnN 3 .i64 w (R + 1) a c l ∧ ∀ b, colBlk v = some b → colBlk S = some b ∨ N0 ≤ b
def colLit (N0 x : Nat) (v : Value) (w : World) : Prop := ∃ b, v = .slice (some ⟨b, 0, none⟩) 1 1 ∧ RowN .i64 w (some ⟨b, 0, none⟩) 1 [x] ∧ N0 ≤ b ∧ b < w.heap.size
def colV (R N0 : Nat) (S1 S2 : Value) (x y : Nat) (l1 l2 : List Nat) (j : Nat) (v : Value) (w : World) : Prop :=
  match j with
  | 0 => v = .pointer (some ⟨R, 0, none⟩)
  | 1 => v = S1
  | 2 => v = .int .i64 x
  | 3 => colLit N0 x v w
  | 4 => colNew R N0 (l1 ++ [x]) S1 v w
  | 5 => v = .pointer (some ⟨R, 1, none⟩)
  | 6 => v = S2
  | 7 => v = .int .i64 y
  | 8 => colLit N0 y v w
  | 9 => colNew R N0 (l2 ++ [y]) S2 v w ∧ ∀ p q, w.heap[R]? = some (.cells #[p, q] 173 (0, 0)) → apart p v
  | 10 => v = .pointer (some ⟨R, 0, none⟩)
  | 11 => ∃ u q, w.heap[R]? = some (.cells #[u, q] 173 (0, 0)) ∧ colNew R N0 (l1 ++ [x]) S1 u w
  | 12 => v = .pointer (some ⟨R, 1, none⟩)
  | 13 => ∃ p u, w.heap[R]? = some (.cells #[p, u] 173 (0, 0)) ∧ colNew R N0 (l2 ++ [y]) S2 u w ∧ apart p u
  | _ => True
def OwnV (R : Nat) (S : Value) (l : List Nat) (w : World) : Prop := ∃ a c, S = .slice a l.length c ∧ OwnN 3 .i64 w (R + 1) a c l
structure colR (R : Nat) (A : World) (S1 S2 : Value) (l1 l2 : List Nat) (listed : Array Bool) (w : World) : Prop where
  below : Below R A w
  keeps : KeepsOthers A w
  cells : ∃ p q, w.heap[R]? = some (.cells #[p, q] 173 (0, 0)) ∧ (listed.getD 11 false = false → p = S1) ∧ (listed.getD 13 false = false → q = S2)
  own1 : listed.getD 4 false = false → OwnV R S1 l1 w
  own2 : listed.getD 9 false = false → OwnV R S2 l2 w
section
variable {R N0 : Nat} {A : World} {S1 S2 : Value} {x y : Nat} {l1 l2 : List Nat} {w w' : World} {listed : Array Bool}
theorem set_getD {i k : Nat} (h : i ≠ k) (h2 : (listed.setIfInBounds i true).getD k false = false) : listed.getD k false = false := by
  rw [getD_set_ne false h] at h2; exact h2
theorem set_getD_same {i : Nat} (hi : i < listed.size) : (listed.setIfInBounds i true).getD i false = true := by simp [hi]
theorem OwnV.lt {S : Value} {l : List Nat} (h : OwnV R S l w) : ∀ b, colBlk S = some b → R + 1 ≤ b ∧ b < w.heap.size := by
  obtain ⟨a, c, rfl, h⟩ := h
  intro b hb
  rcases h.form with ⟨rfl, _⟩ | ⟨g, rfl, h1, h2⟩
  · cases hb
  · cases hb; exact ⟨h1, h2⟩
theorem OwnV.below {S : Value} {l : List Nat} (h : OwnV R S l w) (hb : Below w.heap.size w w') : OwnV R S l w' := by
  obtain ⟨a, c, rfl, h⟩ := h; exact ⟨a, c, rfl, h.below hb⟩
theorem OwnV.kept {S : Value} {l : List Nat} {row : Option Nat} (h : OwnV R S l w) (hg : w.grownBy w' row) (hr : ∀ b, colBlk S = some b → row ≠ some b) : OwnV R S l w' := by
  obtain ⟨a, c, rfl, h⟩ := h; exact ⟨a, c, rfl, h.kept hg (fun g hh => hr g (by subst hh; rfl))⟩
theorem colNew.own {l : List Nat} {S v : Value} (h : colNew R N0 l S v w) : OwnV R v l w := by
  obtain ⟨a, c, h1, h2, _⟩ := h; exact ⟨a, c, h1, h2⟩
theorem colNew.of {l : List Nat} {S v : Value} (h : OwnV R v l w) (h2 : ∀ b, colBlk v = some b → colBlk S = some b ∨ N0 ≤ b) : colNew R N0 l S v w := by
  obtain ⟨a, c, h1, h3⟩ := h; exact ⟨a, c, h1, h3, h2⟩
theorem colNew.below {l : List Nat} {S v : Value} (h : colNew R N0 l S v w) (hb : Below w.heap.size w w') : colNew R N0 l S v w' := colNew.of (h.own.below hb) h.choose_spec.choose_spec.2.2
theorem colNew.kept {l : List Nat} {S v : Value} {row : Option Nat} (h : colNew R N0 l S v w) (hg : w.grownBy w' row) (hr : ∀ b, colBlk v = some b → row ≠ some b) : colNew R N0 l S v w' := colNew.of (h.own.kept hg hr) h.choose_spec.choose_spec.2.2
theorem colV_lt (j : Nat) (v : Value) (hN : N0 ≤ w.heap.size) (h1 : ∀ b, colBlk S1 = some b → b < N0) (h2 : ∀ b, colBlk S2 = some b → b < N0) (h : colV R N0 S1 S2 x y l1 l2 j v w) (hj : j ≤ 10) : ∀ b, colBlk v = some b → b < w.heap.size := by
  intro b hb
  have hj' : j = 0 ∨ j = 1 ∨ j = 2 ∨ j = 3 ∨ j = 4 ∨ j = 5 ∨ j = 6 ∨ j = 7 ∨ j = 8 ∨ j = 9 ∨ j = 10 := by omega
  rcases hj' with rfl | rfl | rfl | rfl | rfl | rfl | rfl | rfl | rfl | rfl | rfl <;> simp only [colV] at h
  · subst h; cases hb
  · subst h; have := h1 b hb; omega
  · subst h; cases hb
  · obtain ⟨b', rfl, _, _, h3⟩ := h; cases hb; exact h3
  · exact (h.own.lt b hb).2
  · subst h; cases hb
  · subst h; have := h2 b hb; omega
  · subst h; cases hb
  · obtain ⟨b', rfl, _, _, h3⟩ := h; cases hb; exact h3
  · exact (h.1.own.lt b hb).2
  · subst h; cases hb
theorem colV_below (j : Nat) (v : Value) (hb : Below w.heap.size w w') (hR : R < w.heap.size) (h : colV R N0 S1 S2 x y l1 l2 j v w) : colV R N0 S1 S2 x y l1 l2 j v w' := by
  have hRe : w'.heap[R]? = w.heap[R]? := hb.block R hR
  unfold colV at *
  split at h
  all_goals try exact h
  · obtain ⟨b, h1, h2, h3, h4⟩ := h; exact ⟨b, h1, h2.below hb, h3, Nat.lt_of_lt_of_le h4 hb.size⟩
  · exact h.below hb
  · obtain ⟨b, h1, h2, h3, h4⟩ := h; exact ⟨b, h1, h2.below hb, h3, Nat.lt_of_lt_of_le h4 hb.size⟩
  · exact ⟨h.1.below hb, fun p q hp => h.2 p q (by rw [← hRe]; exact hp)⟩
  · obtain ⟨u, q, h1, h2⟩ := h; exact ⟨u, q, by rw [hRe]; exact h1, h2.below hb⟩
  · obtain ⟨p, u, h1, h2, h3⟩ := h; exact ⟨p, u, by rw [hRe]; exact h1, h2.below hb, h3⟩
theorem colR.pure {i : Nat} (h : colR R A S1 S2 l1 l2 listed w) (h4 : i ≠ 4) (h9 : i ≠ 9) (h11 : i ≠ 11) (h13 : i ≠ 13) : colR R A S1 S2 l1 l2 (listed.setIfInBounds i true) w := by
  obtain ⟨hb, hk, ⟨p, q, hc, hp, hq⟩, o1, o2⟩ := h
  exact ⟨hb, hk, ⟨p, q, hc, fun e => hp (set_getD h11 e), fun e => hq (set_getD h13 e)⟩, fun e => o1 (set_getD h4 e), fun e => o2 (set_getD h9 e)⟩
theorem colR.alloc (h : colR R A S1 S2 l1 l2 listed w) (o : Obj) : colR R A S1 S2 l1 l2 listed (w.alloc o) := by
  obtain ⟨hb, hk, ⟨p, q, hc, hp, hq⟩, o1, o2⟩ := h
  have hR : R < w.heap.size := (Array.getElem?_eq_some_iff.1 hc).1
  have hbb : Below w.heap.size w (w.alloc o) := (Below.refl _ _).alloc (Nat.le_refl _) _
  exact ⟨hb.trans (hbb.mono (by omega)), hk.trans (KeepsOthers.alloc _ _), ⟨p, q, (hbb.block R hR).trans hc, hp, hq⟩, fun e => (o1 e).below hbb, fun e => (o2 e).below hbb⟩
end

theorem rowN_lit' (k : IntKind) (w : World) (l : List Nat) (E : TypeId) (c : Array Value) (B : Nat) (hB : B = w.heap.size) (hc : c = (l.map fun (n : Nat) => Value.int k n).toArray) (hl : l.length ≤ 9223372036854775807) :
    RowN k (w.alloc (.cells c E)) (some ⟨B, 0, none⟩) l.length l := by
  subst hc hB
  refine ⟨Nat.le_refl _, ⟨hl, fun hn => by cases hn⟩, .inr ⟨w.heap.size, 0, rfl, by simp, fun i hi => ?_⟩⟩
  rw [Nat.zero_add, World.cell?_alloc_at _ _ _ _ rfl]
  simp [hi]
theorem RowN.keptB {k : IntKind} {row : Option Nat} {cap b off : Nat} {l : List Nat} {w w' : World} (h : RowN k w (some ⟨b, off, none⟩) cap l) (hg : w.grownBy w' row) (hr : row ≠ some b) : RowN k w' (some ⟨b, off, none⟩) cap l := by
  obtain ⟨h1, h2, h3⟩ := h
  refine ⟨h1, h2, ?_⟩
  rcases h3 with h3 | ⟨b', off', he, hb', hc⟩
  · exact .inl h3
  · cases he
    exact .inr ⟨b, off, rfl, Nat.lt_of_lt_of_le hb' hg.size, fun i hi => (World.cell?_of_block (a := ⟨b, off + i, none⟩) (hg.block b hb' (fun h => hr h.symm))).trans (hc i hi)⟩
theorem Only.low {T : Nat → Prop} {A B C : World} (h : Only T A B) (h1 : C.os = B.os) (h2 : C.tape = B.tape) (h3 : C.output = B.output) (h4 : B.heap.size ≤ C.heap.size) (hb : ∀ k, k < A.heap.size → C.heap[k]? = B.heap[k]?) : Only T A C :=
  ⟨h1.trans h.os, h2.trans h.tape, h3.trans h.output, Nat.le_trans h.size h4, fun i hi hT => (hb i hi).trans (h.block i hi hT)⟩
theorem bs1 (x : Int) (w : World) : (Instr.buildSlice 59 1 #[(0, .int .i64 x)]).run Try.prog w = .ok (.slice (some ⟨w.heap.size, 0, none⟩) 1 1) (w.alloc (.cells #[.int .i64 x] 3)) := by
  have hie : (Try.prog.info? 3).map (fun i => (i.zero, i.size)) = some (some (.int .i64 0), 1) := by kernel_rfl
  cases h5 : Try.prog.info? 3 with
  | none => rw [h5] at hie; cases hie
  | some ie =>
    simp only [h5, Option.map_some, Option.some.injEq, Prod.mk.injEq] at hie
    exact run_buildSlice w 59 3 1 _ _ ie (.int .i64 0) Try.underlying59 h5 hie.1 (by rw [hie.2]; decide) (by rw [hie.2]; decide) (by rw [hie.2]; exact Great.fill_flat [Value.int .i64 x] _ (fun v hv => by rw [List.mem_singleton.1 hv]; rfl) (by simp))
theorem appNInAt {P : Program} {F : Fence} {dep : Nat} {T E : TypeId} {k : IntKind} {bytes : Nat} (et : ElemTy P T E k bytes) {w : World} {ops : Array Oper} {rest : List Oper} {o : Oper} {ac : Act} {Q : Exit → Act → World → Prop} (hgd : o.guard = none) (s x : Operand)
    (ho : o.op = .call { callee := .builtin .append, args := #[s, x], argTypes := #[T, T] }) {base : Nat} {a : Option Addr} {cap m c : Nat} {l ys : List Nat}
    (hs : ac.eval s = .slice a l.length cap) (hown : OwnN E k w base a cap l) {b : Option Addr} (hm : m = ys.length) (hx : ac.eval x = .slice b m c) (hy : RowN k w b c ys)
    (hb0 : 0 < ys.length) (hn : l.length + m ≤ 9223372036854775807) (hbytes : (l.length + m) * bytes ≤ 140737488355328) (hbase : base ≤ w.heap.size)
    (h : ∀ a' cap' w', OwnN E k w' base a' cap' (l ++ ys) → w.grownBy w' (Value.slice a l.length cap).ownBlock → Below base w w' → ((Value.slice a' (l.length + m) cap').ownBlock = (Value.slice a l.length cap).ownBlock ∨ (Value.slice a' (l.length + m) cap').ownBlock = some w.heap.size) → wpListIn F dep P ops Q rest (ac.put o.dst (.slice a' (l.length + m) cap')) w') :
    wpListIn F dep P ops Q (o :: rest) ac w := by
  subst hm
  obtain ⟨i, h2, h3, h4, h5⟩ := info_parts et.info
  obtain ⟨bb, off, rfl, _⟩ := hy.at hb0
  refine wpListIn_plain (by assumption) fun K hK' => ?_
  obtain ⟨v', w', hr, h6, h7, h8, h12⟩ := run_append_own_at (P := P) w base T o.type E i (.int k 0) 1 bytes et.und h2 h3 h4 h5 rfl (by decide) _ l.length _ hown ⟨bb, off, none⟩ ys.length c (ys.map fun (n : Nat) => Value.int k n) (by simp)
    (cells_of_rowN hy _ rfl) (by intro u hu; simp only [List.mem_map] at hu; obtain ⟨n, _, rfl⟩ := hu; rfl) (by simpa [maxLen] using hn) hbytes hbase
  have hv : ∃ a' cap', v' = .slice a' (l.length + ys.length) cap' := by
    rcases h6.2 with ⟨h9, h10⟩ | ⟨g, c', cur, h9, _⟩
    · exact ⟨none, 0, by rw [h9, h10]⟩
    · exact ⟨_, _, h9⟩
  obtain ⟨a', cap', rfl⟩ := hv
  have hown' : OwnN E k w' base a' cap' (l ++ ys) := by
    unfold OwnN; rw [List.length_append, List.map_append]; exact h6
  have hbel : Below base w w' := Below.of_grown h7 hbase (by
    intro g hg
    exact (World.ownsRow.lt hown g hg).1)
  unfold Oper.wpIn
  refine ⟨by simp [Oper.about, ho, resolve, Target.leads, Sem.run_pure], ?_⟩
  rw [Oper.semAt_plain F _ _ (by rw [ho]; intro c hc'; cases hc')]
  simp [execOp, ho, resolve, invoke, builtin, hs, hx, hr, Result.andThen]
  exact hK' _ _ (h a' cap' w' hown' h7 hbel h12)
end Go.Proofs.Ytmgoeokdlklabaa
