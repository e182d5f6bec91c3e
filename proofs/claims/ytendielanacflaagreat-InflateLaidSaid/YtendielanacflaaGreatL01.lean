/- Plain words that all walks of this seat use: a slice that is read as a list of numbers. Owned slices of numbers: what a call makes itself, as a list; laws for make, append, load and store. A range over a function, over a plain list of rows: what an iterator promises, what its caller owes. The iterator may keep state of its own in cells. After the kit's laws for ranges over functions. -/
import Derived.WalkKit
import Derived.WalkLawsBesides
import Derived.WalkSpells
import Derived.Lib.Hide
import Derived.Below
import Derived.OneCell
import Derived.OwnWalkIn
import Derived.Laws.BytesString
import Derived.RangeFuncNested
import Derived.RangeFuncBound
import Derived.RangeFuncCalls
import Derived.RangeFuncLeaves
import Derived.RangeFuncWrites
import Derived.Shelf.Abstract
import Derived.Shelf.RegionOpen
import Derived.TacticsInMore
import Derived.LoopNIn
import Derived.LoopIn
namespace Go.Proofs.YtendielanacflaaGreat
open Go.RowKit
set_option linter.unusedVariables false
def RowN (k : IntKind) (w : World) (a : Option Addr) (cap : Nat) (l : List Nat) : Prop :=
  l.length ≤ cap ∧ (cap ≤ 9223372036854775807 ∧ (a = none → cap = 0)) ∧ (l = [] ∨ ∃ b off, a = some ⟨b, off, none⟩ ∧ b < w.heap.size ∧ ∀ i (h : i < l.length), w.cell? ⟨b, off + i, none⟩ = some (.int k (l[i] : Nat)))
def RowI (k : IntKind) (w : World) (a : Option Addr) (cap : Nat) (l : List Int) : Prop :=
  l.length ≤ cap ∧ (cap ≤ 9223372036854775807 ∧ (a = none → cap = 0)) ∧ (l = [] ∨ ∃ b off, a = some ⟨b, off, none⟩ ∧ b < w.heap.size ∧ ∀ i (h : i < l.length), w.cell? ⟨b, off + i, none⟩ = some (.int k l[i]))
theorem RowN.at {k : IntKind} {w : World} {a : Option Addr} {cap : Nat} {l : List Nat} (h : RowN k w a cap l) {i : Nat} (hi : i < l.length) :
   ∃ b off, a = some ⟨b, off, none⟩ ∧ b < w.heap.size ∧ w.cell? ⟨b, off + i, none⟩ = some (.int k (l[i] : Nat)) := by
  obtain ⟨_, _, rfl | ⟨b, off, rfl, hb, hc⟩⟩ := h
  · simp at hi
  · exact ⟨b, off, rfl, hb, hc i hi⟩
theorem RowN.len {k : IntKind} {w : World} {a : Option Addr} {cap : Nat} {l : List Nat} (h : RowN k w a cap l) : l.length ≤ 9223372036854775807 := by have := h.1; have := h.2.1.1; omega
theorem RowI.at {k : IntKind} {w : World} {a : Option Addr} {cap : Nat} {l : List Int} (h : RowI k w a cap l) {i : Nat} (hi : i < l.length) :
   ∃ b off, a = some ⟨b, off, none⟩ ∧ b < w.heap.size ∧ w.cell? ⟨b, off + i, none⟩ = some (.int k l[i]) := by
  obtain ⟨_, _, rfl | ⟨b, off, rfl, hb, hc⟩⟩ := h
  · simp at hi
  · exact ⟨b, off, rfl, hb, hc i hi⟩
theorem RowI.len {k : IntKind} {w : World} {a : Option Addr} {cap : Nat} {l : List Int} (h : RowI k w a cap l) : l.length ≤ 9223372036854775807 := by have := h.1; have := h.2.1.1; omega
theorem RowN.below {k : IntKind} {w w' : World} {a : Option Addr} {cap : Nat} {l : List Nat} (h : RowN k w a cap l) (hb : Below w.heap.size w w') : RowN k w' a cap l := by
  obtain ⟨h1, h2, h3⟩ := h
  refine ⟨h1, h2, ?_⟩
  rcases h3 with h3 | ⟨b, off, ha, hb', hc⟩
  · exact .inl h3
  · exact .inr ⟨b, off, ha, Nat.lt_of_lt_of_le hb' hb.size, fun i hi => (hb.cell (p := ⟨b, off + i, none⟩) hb').trans (hc i hi)⟩
theorem RowI.below {k : IntKind} {w w' : World} {a : Option Addr} {cap : Nat} {l : List Int} (h : RowI k w a cap l) (hb : Below w.heap.size w w') : RowI k w' a cap l := by
  obtain ⟨h1, h2, h3⟩ := h
  refine ⟨h1, h2, ?_⟩
  rcases h3 with h3 | ⟨b, off, ha, hb', hc⟩
  · exact .inl h3
  · exact .inr ⟨b, off, ha, Nat.lt_of_lt_of_le hb' hb.size, fun i hi => (hb.cell (p := ⟨b, off + i, none⟩) hb').trans (hc i hi)⟩
theorem RowN.nil (k : IntKind) (w : World) : RowN k w none 0 [] := ⟨by simp, by simp, .inl rfl⟩
theorem RowI.nil (k : IntKind) (w : World) : RowI k w none 0 [] := ⟨by simp, by simp, .inl rfl⟩
theorem ret_int {k : IntKind} {a b : Int} (h : a = b) : Ending.returned (.int k a) = .returned (.int k b) := by rw [h]
theorem ret_bool {a b : Bool} (h : a = b) : Ending.returned (.bool a) = .returned (.bool b) := by rw [h]
theorem int_eq {k : IntKind} {a b : Int} (h : a = b) : (Value.int k a) = .int k b := by rw [h]
end Go.Proofs.YtendielanacflaaGreat

namespace Go.Proofs.YtendielanacflaaGreat
open Go.RowKit
set_option linter.unusedVariables false
structure ElemTy (P : Program) (T E : TypeId) (k : IntKind) (bytes : Nat) : Prop where
  und : P.underlying T = some (.slice E)
  info : (P.info? E).map (fun i => (i.zero, i.size, i.bytes)) = some (some (.int k 0), 1, bytes)
theorem Below.of_grown {B : Nat} {w w' : World} {row : Option Nat} (hg : w.grownBy w' row) (hB : B ≤ w.heap.size) (hr : ∀ k, row = some k → B ≤ k) : Below B w w' :=
  (Below.refl B w).grown hg hB hr
def OwnN (E : TypeId) (k : IntKind) (w : World) (base : Nat) (a : Option Addr) (cap : Nat) (l : List Nat) : Prop :=
  w.ownsRow base E 1 (.slice a l.length cap) l.length (l.map fun (n : Nat) => Value.int k n)
section
variable {P : Program} {E : TypeId} {k : IntKind} {w w' : World} {base cap : Nat} {a : Option Addr} {l : List Nat}
theorem OwnN.nil (E : TypeId) (k : IntKind) (w : World) (base : Nat) : OwnN E k w base none 0 [] := World.ownsRow_nil w base E 1
theorem OwnN.lit0 (E : TypeId) (k : IntKind) (w : World) (base : Nat) (hb : base ≤ w.heap.size) : OwnN E k (w.alloc (.cells #[] E)) base (some ⟨w.heap.size, 0, none⟩) 0 [] :=
  World.ownsRow_made w #[] 0 hb (by decide) rfl
theorem OwnN.form (h : OwnN E k w base a cap l) : (a = none ∧ cap = 0 ∧ l = []) ∨ ∃ g, a = some ⟨g, 0, none⟩ ∧ base ≤ g ∧ g < w.heap.size := by
  rcases h.2 with ⟨h1, h2⟩ | ⟨g, c, cur, h1, h2, h3, _⟩
  · simp only [Value.slice.injEq] at h1
    exact .inl ⟨h1.1, h1.2.2, List.eq_nil_of_length_eq_zero h2⟩
  · simp only [Value.slice.injEq] at h1
    exact .inr ⟨g, h1.1, h2, (Array.getElem?_eq_some_iff.1 h3).1⟩
theorem OwnN.caps (h : OwnN E k w base a cap l) : l.length ≤ cap ∧ cap ≤ 9223372036854775807 := by
  rcases h.2 with ⟨h1, h2⟩ | ⟨g, c, cur, h1, h2, h3, h4, h5, _⟩
  · simp only [Value.slice.injEq] at h1
    omega
  · simp only [Value.slice.injEq] at h1
    obtain ⟨_, _, rfl⟩ := h1
    exact ⟨h4, by simpa [maxLen] using h5⟩
theorem OwnN.at (h : OwnN E k w base a cap l) {i : Nat} (hi : i < l.length) :
    ∃ g, a = some ⟨g, 0, none⟩ ∧ base ≤ g ∧ g < w.heap.size ∧ w.cell? ⟨g, i, none⟩ = some (.int k l[i]) ∧ w.frozen? ⟨g, i, none⟩ = false := by
  rcases h.form with ⟨_, _, rfl⟩ | ⟨g, rfl, hb, hg⟩
  · simp at hi
  · refine ⟨g, rfl, hb, hg, ?_, World.ownsRow.frozenAt h i⟩
    rw [World.ownsRow.cellAt h i (by omega)]
    simp [hi]
theorem OwnN.row (h : OwnN E k w base a cap l) : RowN k w a cap l := by
  refine ⟨h.caps.1, ⟨h.caps.2, fun hn => by rcases h.form with ⟨_, h1, _⟩ | ⟨g, h1, _⟩ <;> simp_all⟩, ?_⟩
  rcases h.form with ⟨_, _, rfl⟩ | ⟨g, rfl, hb, hg⟩
  · exact .inl rfl
  · refine .inr ⟨g, 0, rfl, hg, fun i hi => ?_⟩
    obtain ⟨g', he, _, _, hc, _⟩ := h.at hi
    simp only [Option.some.injEq, Addr.mk.injEq, and_true] at he
    subst he
    simpa using hc
theorem OwnN.kept {row : Option Nat} (h : OwnN E k w base a cap l) (hg : w.grownBy w' row) (hr : ∀ g, a = some ⟨g, 0, none⟩ → row ≠ some g) : OwnN E k w' base a cap l := by
  refine World.ownsRow.kept h hg ?_
  rcases h.form with ⟨rfl, _, _⟩ | ⟨g, rfl, hb, hgg⟩
  · exact .inl rfl
  · exact .inr fun e => hr g rfl e.symm
theorem OwnN.below (h : OwnN E k w base a cap l) (hb : Below w.heap.size w w') : OwnN E k w' base a cap l :=
  h.kept (row := none) ⟨hb.os, hb.tape, hb.output, hb.size, fun k hk _ => hb.block k hk⟩ (fun _ _ e => by cases e)
theorem OwnN.drew (h : OwnN E k w base a cap l) : OwnN E k w.drew base a cap l := h
theorem OwnN.alloc (h : OwnN E k w base a cap l) (o : Obj) : OwnN E k (w.alloc o) base a cap l := World.ownsRow.alloc h o
theorem OwnN.other (h : OwnN E k w base a cap l) {p : Addr} (hp : ∀ g, a = some ⟨g, 0, none⟩ → p.block ≠ g) (u : Value) : OwnN E k (w.setCell p u) base a cap l := by
  refine ownsRow_setCell_other h ?_ u
  rcases h.form with ⟨rfl, _, _⟩ | ⟨g, rfl, hb, hgg⟩
  · simp [Value.ownBlock]
  · simp only [Value.ownBlock, ne_eq, Option.some.injEq]
    exact fun e => hp g rfl e.symm
theorem OwnN.mono (h : OwnN E k w base a cap l) {b : Nat} (hb : b ≤ base) : OwnN E k w b a cap l := by
  refine ⟨h.1, ?_⟩
  rcases h.2 with h2 | ⟨g, c, cur, h1, h2, h3⟩
  · exact .inl h2
  · exact .inr ⟨g, c, cur, h1, by omega, h3⟩
theorem OwnN.stored {g : Nat} (h : OwnN E k w base (some ⟨g, 0, none⟩) cap l) (i : Nat) (x : Nat) :
    OwnN E k (w.setCell ⟨g, i, none⟩ (.int k x)) base (some ⟨g, 0, none⟩) cap (l.set i x) ∧ w.grownBy (w.setCell ⟨g, i, none⟩ (.int k x)) (some g) := by
  obtain ⟨h1, h2⟩ := World.ownsRow.stored h i (.int k x)
  refine ⟨?_, h2⟩
  unfold OwnN
  rw [List.map_set, List.length_set]
  exact h1
theorem cells_of_rowN {a : Option Addr} {cap : Nat} (h : RowN k w a cap l) : ∀ ad, a = some ad → ∀ j u, (l.map fun (n : Nat) => Value.int k n)[j]? = some u → w.cell? (ad.add j) = some u := by
  intro ad had j u hu
  have hj : j < l.length := by
    have := (List.getElem?_eq_some_iff.1 hu).1
    simpa using this
  obtain ⟨b, off, he, _, hc⟩ := h.at hj
  rw [had] at he
  cases he
  simp only [List.getElem?_map, List.getElem?_eq_getElem hj, Option.map_some, Option.some.injEq] at hu
  rw [← hu, ← hc]
  unfold Addr.add
  split
  · simp_all
  · rfl
end
section
variable {P : Program} {T E : TypeId} {k : IntKind} {bytes : Nat}
theorem makeN (et : ElemTy P T E k bytes) {w : World} {ops : Array Oper} {rest : List Oper} {o : Oper} {a : Act} {Q : Exit → Act → World → Prop}
    (hg : o.guard = none) (lo c : Operand) (hop : o.op = Op.makeSlice T lo c) (base : Nat) {kl kc : IntKind} {n : Nat} (hl : a.eval lo = .int kl n) (hc : a.eval c = .int kc n)
    (hb : bytes * n ≤ 281474976710656) (hn : n ≤ 9223372036854775807) (hbase : base ≤ w.heap.size)
    (hK : ∀ w', OwnN E k w' base (some ⟨w.heap.size, 0, none⟩) n (List.replicate n 0) → w.grownBy w' none → wpList P ops Q rest (a.put o.dst (.slice (some ⟨w.heap.size, 0, none⟩) n n)) w') :
    wpList P ops Q (o :: rest) a w := by
  obtain ⟨i, h2, h3, h4, h5⟩ := info_parts et.info
  refine wpList_plain (by assumption) fun K hK' => ?_
  obtain ⟨w', hrun, r1, r2⟩ := run_make_full (P := P) w base T E i (.int k 0) 1 et.und h2 h3 h4 kl kc n (by rw [h5]; exact hb) (by simpa [maxLen] using hn) hbase
  unfold Oper.wp
  simp [execOp, hop, hl, hc, hrun, Result.andThen]
  refine hK' _ _ (hK w' ?_ r2)
  unfold OwnN
  have hm : (madeCells (Value.int k 0).cells (n * 1)).toList = (List.replicate n (0 : Nat)).map fun (n : Nat) => Value.int k n := by
    rw [Nat.mul_one]; show (madeCells #[.int k 0] n).toList = _; rw [toList_madeCells_one]; simp
  rw [List.length_replicate, ← hm]
  exact r1
theorem appN (et : ElemTy P T E k bytes) {w : World} {ops : Array Oper} {rest : List Oper} {o : Oper} {ac : Act} {Q : Exit → Act → World → Prop} (hgd : o.guard = none) (s x : Operand)
    (ho : o.op = .call { callee := .builtin .append, args := #[s, x], argTypes := #[T, T] }) {base : Nat} {a : Option Addr} {cap m c : Nat} {l ys : List Nat}
    (hs : ac.eval s = .slice a l.length cap) (hown : OwnN E k w base a cap l) {b : Option Addr} (hm : m = ys.length) (hx : ac.eval x = .slice b m c) (hy : RowN k w b c ys)
    (hb0 : 0 < ys.length) (hn : l.length + m ≤ 9223372036854775807) (hbytes : (l.length + m) * bytes ≤ 140737488355328) (hbase : base ≤ w.heap.size)
    (h : ∀ a' cap' w', OwnN E k w' base a' cap' (l ++ ys) → w.grownBy w' (Value.slice a l.length cap).ownBlock → Below base w w' → wpList P ops Q rest (ac.put o.dst (.slice a' (l.length + m) cap')) w') :
    wpList P ops Q (o :: rest) ac w := by
  subst hm
  obtain ⟨i, h2, h3, h4, h5⟩ := info_parts et.info
  obtain ⟨bb, off, rfl, _⟩ := hy.at hb0
  refine wpList_plain (by assumption) fun K hK' => ?_
  obtain ⟨v', w', hr, h6, h7, h8⟩ := run_append_own (P := P) w base T o.type E i (.int k 0) 1 bytes et.und h2 h3 h4 h5 rfl (by decide) _ l.length _ hown ⟨bb, off, none⟩ ys.length c (ys.map fun (n : Nat) => Value.int k n) (by simp)
    (cells_of_rowN hy _ rfl) (by intro u hu; simp only [List.mem_map] at hu; obtain ⟨n, _, rfl⟩ := hu; rfl) (by simpa [maxLen] using hn) hbytes hbase
  have hv : ∃ a' cap', v' = .slice a' (l.length + ys.length) cap' := by
    rcases h6.2 with ⟨h9, h10⟩ | ⟨g, c', cur, h9, _⟩
    · exact ⟨none, 0, by rw [h9, h10]⟩
    · exact ⟨_, _, h9⟩
  obtain ⟨a', cap', rfl⟩ := hv
  have hown' : OwnN E k w' base a' cap' (l ++ ys) := by
    unfold OwnN; rw [List.length_append, List.map_append]; exact h6
  have hbel : Below base w w' := Below.of_grown h7 hbase (by
    intro g hg
    exact (World.ownsRow.lt hown g hg).1)
  unfold Oper.wp
  simp [execOp, ho, resolve, invoke, builtin, hs, hx, hr, Result.andThen]
  exact hK' _ _ (h a' cap' w' hown' h7 hbel)
theorem appAnyN (et : ElemTy P T E k bytes) {w : World} {ops : Array Oper} {rest : List Oper} {o : Oper} {ac : Act} {Q : Exit → Act → World → Prop} (hgd : o.guard = none) (s x : Operand)
    (ho : o.op = .call { callee := .builtin .append, args := #[s, x], argTypes := #[T, T] }) {base : Nat} {a : Option Addr} {cap m c : Nat} {l ys : List Nat}
    (hs : ac.eval s = .slice a l.length cap) (hown : OwnN E k w base a cap l) {b : Option Addr} (hm : m = ys.length) (hx : ac.eval x = .slice b m c) (hy : RowN k w b c ys)
    (hn : l.length + m ≤ 9223372036854775807) (hbytes : (l.length + m) * bytes ≤ 140737488355328) (hbase : base ≤ w.heap.size)
    (h : ∀ a' cap' w', OwnN E k w' base a' cap' (l ++ ys) → w.grownBy w' (Value.slice a l.length cap).ownBlock → Below base w w' → wpList P ops Q rest (ac.put o.dst (.slice a' (l.length + m) cap')) w') :
    wpList P ops Q (o :: rest) ac w := by
  by_cases hy0 : 0 < ys.length
  · exact appN et hgd s x ho hs hown hm hx hy hy0 hn hbytes hbase h
  subst hm
  obtain rfl : ys = [] := List.eq_nil_of_length_eq_zero (by omega)
  obtain ⟨i, h2, h3, h4, h5⟩ := info_parts et.info
  have h' : ∀ a' cap' w', OwnN E k w' base a' cap' l → w.grownBy w' (Value.slice a l.length cap).ownBlock → Below base w w' → wpList P ops Q rest (ac.put o.dst (.slice a' l.length cap')) w' := by
    intro a' cap' w' h6
    have := h a' cap' w' (by simpa using h6)
    simpa using this
  refine wpList_plain (by assumption) fun K hK' => ?_
  cases b with
  | none =>
    obtain rfl : c = 0 := hy.2.1.2 rfl
    have hr := run_append_owned_none (P := P) w base T o.type E i 1 et.und h2 _ l.length _ hown
    unfold Oper.wp
    simp [execOp, ho, resolve, invoke, builtin, hs, hx, hr, Result.andThen]
    exact hK' _ _ (h' a cap w hown (World.grownBy.refl _ _) (Below.refl _ _))
  | some ad =>
    obtain ⟨v', w', hr, h6, h7, h8⟩ := run_append_own (P := P) w base T o.type E i (.int k 0) 1 bytes et.und h2 h3 h4 h5 rfl (by decide) _ l.length _ hown ad 0 c [] (by simp)
      (by simp) (by simp) (by simpa [maxLen] using hn) (by simpa using hbytes) hbase
    have hv : ∃ a' cap', v' = .slice a' l.length cap' := by
      rcases h6.2 with ⟨h9, h10⟩ | ⟨g, c', cur, h9, _⟩
      · exact ⟨none, 0, by rw [h9]; simp at h10; rw [h10]; rfl⟩
      · exact ⟨_, _, h9⟩
    obtain ⟨a', cap', rfl⟩ := hv
    have hown' : OwnN E k w' base a' cap' l := by
      unfold OwnN; simpa using h6
    have hbel : Below base w w' := Below.of_grown h7 hbase (by
      intro g hg
      exact (World.ownsRow.lt hown g hg).1)
    unfold Oper.wp
    simp only [List.length_nil] at hx
    simp [execOp, ho, resolve, invoke, builtin, hs, hx, hr, Result.andThen]
    exact hK' _ _ (h' a' cap' w' hown' h7 hbel)
theorem app1N (et : ElemTy P T E k bytes) {w : World} {ops : Array Oper} {rest : List Oper} {o : Oper} {ac : Act} {Q : Exit → Act → World → Prop} (hgd : o.guard = none) (s x : Operand)
    (ho : o.op = .call { callee := .builtin .append, args := #[s, x], argTypes := #[T, T] }) {base : Nat} {a : Option Addr} {cap : Nat} {l : List Nat} {y : Nat} {c E' : Nat}
    (hs : ac.eval s = .slice a l.length cap) (hown : OwnN E k w base a cap l) (hx : ac.eval x = .slice (some ⟨w.heap.size, 0, none⟩) 1 c) (hc : 1 ≤ c) (hc' : c ≤ 9223372036854775807)
    (hn : l.length + 1 ≤ 9223372036854775807) (hbytes : (l.length + 1) * bytes ≤ 140737488355328) (hbase : base ≤ w.heap.size)
    (h : ∀ a' cap' w', OwnN E k w' base a' cap' (l ++ [y]) → w.grownBy w' (Value.slice a l.length cap).ownBlock → Below base w w' → wpList P ops Q rest (ac.put o.dst (.slice a' (l.length + 1) cap')) w') :
    wpList P ops Q (o :: rest) ac (w.alloc (.cells #[.int k y] E')) := by
  refine appN et hgd s x ho hs (hown.alloc _) (ys := [y]) rfl hx ?_ (by simp) hn hbytes (by simp; omega) ?_
  · refine ⟨by simpa using hc, ⟨hc', fun hn => by cases hn⟩, .inr ⟨w.heap.size, 0, rfl, by simp, fun i hi => ?_⟩⟩
    obtain rfl : i = 0 := by simp at hi; omega
    simp [World.cell?_alloc_at]
  · intro a' cap' w' h1 h2 h3
    refine h a' cap' w' h1 ⟨h2.os, h2.tape, h2.output, Nat.le_trans (by simp) h2.size, fun q hq hr => (h2.block q (by simp; omega) hr).trans (Below.heap_alloc _ _ _ hq)⟩ (((Below.refl base w).alloc hbase _).trans h3)
end
section
variable {P : Program} {T E : TypeId} {k : IntKind} {bytes : Nat} {F : Fence} {dep : Nat}
theorem makeNIn (et : ElemTy P T E k bytes) {w : World} {ops : Array Oper} {rest : List Oper} {o : Oper} {a : Act} {Q : Exit → Act → World → Prop}
    (hg : o.guard = none) (lo c : Operand) (hop : o.op = Op.makeSlice T lo c) (base : Nat) {kl kc : IntKind} {n : Nat} (hl : a.eval lo = .int kl n) (hc : a.eval c = .int kc n)
    (hb : bytes * n ≤ 281474976710656) (hn : n ≤ 9223372036854775807) (hbase : base ≤ w.heap.size)
    (hK : ∀ w', OwnN E k w' base (some ⟨w.heap.size, 0, none⟩) n (List.replicate n 0) → w.grownBy w' none → wpListIn F dep P ops Q rest (a.put o.dst (.slice (some ⟨w.heap.size, 0, none⟩) n n)) w') :
    wpListIn F dep P ops Q (o :: rest) a w := by
  obtain ⟨i, h2, h3, h4, h5⟩ := info_parts et.info
  refine wpListIn_plain (by assumption) fun K hK' => ?_
  obtain ⟨w', hrun, r1, r2⟩ := run_make_full (P := P) w base T E i (.int k 0) 1 et.und h2 h3 h4 kl kc n (by rw [h5]; exact hb) (by simpa [maxLen] using hn) hbase
  unfold Oper.wpIn
  refine ⟨by simp [Oper.about, hop], ?_⟩
  rw [Oper.semAt_plain F _ _ (by rw [hop]; intro c hc'; cases hc')]
  simp [execOp, hop, hl, hc, hrun, Result.andThen]
  refine hK' _ _ (hK w' ?_ r2)
  unfold OwnN
  have hm : (madeCells (Value.int k 0).cells (n * 1)).toList = (List.replicate n (0 : Nat)).map fun (n : Nat) => Value.int k n := by
    rw [Nat.mul_one]; show (madeCells #[.int k 0] n).toList = _; rw [toList_madeCells_one]; simp
  rw [List.length_replicate, ← hm]
  exact r1
end
section
variable {P : Program} {E : TypeId} {k : IntKind} {w w' : World} {base cap : Nat} {a : Option Addr} {l : List Int}
end
section
variable {P : Program} {T E : TypeId} {k : IntKind} {bytes : Nat}
end
section
variable {P : Program} {T E : TypeId} {k : IntKind} {bytes : Nat} {F : Fence} {dep : Nat}
end
def strOf (l : List Nat) : ByteArray := (l.map fun (n : Nat) => (n : Int)).foldl (fun r n => r.push (UInt8.ofNat n.toNat)) ByteArray.empty
theorem conv_row {P : Program} {src dst e : TypeId} {w : World} {a : Option Addr} {cap n : Nat} {l : List Nat} (hs : P.underlying src = some (.slice e)) (he : P.underlying e = some (.int .u8)) (hd : P.underlying dst = some .string) (hn : n = l.length) (h : RowN .u8 w a cap l) :
    (convert src dst (.slice a n cap)).run P w = .ok (.string (strOf l)) w := by
  subst hn
  rw [run_convert_bytes_string w src dst e a _ _ hs he hd]
  cases a with
  | none =>
    obtain ⟨h1, h2, rfl | ⟨b, off, h3, _⟩⟩ := h
    · rfl
    · cases h3
  | some ad =>
    refine run_bytesToString w ad _ _ _ ?_
    have hr := run_loadCells_list (P := P) (w := w) ad (l.map fun (n : Nat) => Value.int .u8 n) (cells_of_rowN h ad rfl)
    simp only [List.length_map] at hr
    rw [hr]
    simp [Function.comp_def]
end Go.Proofs.YtendielanacflaaGreat

namespace Go.Proofs.YtendielanacflaaGreat
open Go.RowKit
set_option linter.unusedVariables false
structure Only (T : Nat → Prop) (A B : World) : Prop where
  os : B.os = A.os
  tape : B.tape = A.tape
  output : B.output = A.output
  size : A.heap.size ≤ B.heap.size
  block : ∀ k, k < A.heap.size → ¬ T k → B.heap[k]? = A.heap[k]?
theorem Only.refl (T : Nat → Prop) (A : World) : Only T A A := ⟨rfl, rfl, rfl, Nat.le_refl _, fun _ _ _ => rfl⟩
theorem Only.trans {T : Nat → Prop} {A B C : World} (h : Only T A B) (k : Only T B C) : Only T A C :=
  ⟨k.os.trans h.os, k.tape.trans h.tape, k.output.trans h.output, Nat.le_trans h.size k.size, fun i hi hT => (k.block i (Nat.lt_of_lt_of_le hi h.size) hT).trans (h.block i hi hT)⟩
theorem Only.mono {T T' : Nat → Prop} {A B : World} (h : Only T A B) (hT : ∀ k, k < A.heap.size → T k → T' k) : Only T' A B :=
  ⟨h.os, h.tape, h.output, h.size, fun i hi hn => h.block i hi fun ht => hn (hT i hi ht)⟩
theorem Only.alloc {T : Nat → Prop} {A B : World} (h : Only T A B) (o : Obj) : Only T A (B.alloc o) :=
  h.trans ⟨rfl, rfl, rfl, by simp, fun k hk _ => Below.heap_alloc _ _ _ hk⟩
theorem Only.drew {T : Nat → Prop} {A B : World} (h : Only T A B) : Only T A B.drew := ⟨h.os, h.tape, h.output, h.size, h.block⟩
theorem Only.setCell {T : Nat → Prop} {A B : World} (h : Only T A B) {p : Addr} (hp : T p.block ∨ A.heap.size ≤ p.block) (u : Value) : Only T A (B.setCell p u) := by
  refine ⟨h.os, h.tape, h.output, by simpa [World.setCell] using h.size, fun k hk hT => ?_⟩
  rw [Below.heap_setCell _ _ _ _ (by rcases hp with hp | hp <;> first | omega | exact fun e => hT (e ▸ hp))]
  exact h.block k hk hT
theorem Only.below {T : Nat → Prop} {A B C : World} (h : Only T A B) (k : Below B.heap.size B C) : Only T A C :=
  h.trans ⟨k.os, k.tape, k.output, k.size, fun i hi _ => k.block i hi⟩
theorem Only.grown {T : Nat → Prop} {A B C : World} {row : Option Nat} (h : Only T A B) (k : B.grownBy C row) (hr : ∀ r, row = some r → T r ∨ A.heap.size ≤ r) : Only T A C := by
  refine ⟨k.os.trans h.os, k.tape.trans h.tape, k.output.trans h.output, Nat.le_trans h.size k.size, fun i hi hT => ?_⟩
  rw [k.block i (Nat.lt_of_lt_of_le hi h.size) (fun e => by rcases hr i e.symm with h' | h' <;> first | omega | exact hT h')]
  exact h.block i hi hT
theorem Below.only {n : Nat} {T : Nat → Prop} {w A B : World} (h : Below n w A) (k : Only T A B) (hn : n ≤ w.heap.size) (hT : ∀ b, T b → n ≤ b) : Below n w B :=
  h.trans ⟨k.os, k.tape, k.output, k.size, fun i hi => k.block i (by have := h.size; omega) (fun t => by have := hT i t; omega)⟩
theorem Below.put {n : Nat} {w A : World} (h : Below n w A) (hn : n ≤ w.heap.size) {l : Nat} {o : Obj} (hl : A.heap[l]? = some o) (hN : n ≤ l) (o' : Obj) : Below n w (A.putObj l o') :=
  h.grown (grownBy_putObj' A l o') (by have := h.size; omega) (fun k e => by cases e; exact hN)
theorem box_put {A : World} {b l : Nat} {o o' : Obj} {c : Array Value} {e : TypeId} {z : Nat × Nat} (h : A.heap[b]? = some (.cells c e z)) (hl : A.heap[l]? = some o) (ho : o.isCells = false) : (A.putObj l o').heap[b]? = some (.cells c e z) :=
  (World.putObj_heap_other (by intro e'; subst e'; rw [h] at hl; cases hl; cases ho)).trans h
theorem box_only {T : Nat → Prop} {A B : World} {b : Nat} {o : Obj} (h : A.heap[b]? = some o) (k : Only T A B) (hT : ¬ T b) : B.heap[b]? = some o :=
  (k.block b (lt_of_block h) hT).trans h
theorem OwnN.only {T : Nat → Prop} {E : TypeId} {k : IntKind} {A B : World} {base cap : Nat} {a : Option Addr} {l : List Nat} (h : OwnN E k A base a cap l) (ho : Only T A B) (hT : ∀ b, base ≤ b → ¬ T b) : OwnN E k B base a cap l := by
  refine ⟨h.1, ?_⟩
  rcases h.2 with h2 | ⟨g, c, cur, h1, h2, h3, h4⟩
  · exact .inl h2
  · exact .inr ⟨g, c, cur, h1, h2, box_only h3 ho (hT g h2), h4⟩
theorem OwnN.put {E : TypeId} {k : IntKind} {A : World} {base cap : Nat} {a : Option Addr} {l : List Nat} (h : OwnN E k A base a cap l) {r : Nat} {o : Obj} (hl : A.heap[r]? = some o) (ho : o.isCells = false) (o' : Obj) : OwnN E k (A.putObj r o') base a cap l := by
  refine ⟨h.1, ?_⟩
  rcases h.2 with h2 | ⟨g, c, cur, h1, h2, h3, h4⟩
  · exact .inl h2
  · exact .inr ⟨g, c, cur, h1, h2, box_put h3 hl ho, h4⟩
structure SameOn (S : Nat → Prop) (A B : World) : Prop where
  size : A.heap.size ≤ B.heap.size
  same : ∀ b, S b → B.heap[b]? = A.heap[b]?
theorem SameOn.refl (S : Nat → Prop) (A : World) : SameOn S A A := ⟨Nat.le_refl _, fun _ _ => rfl⟩
theorem SameOn.trans {S : Nat → Prop} {A B C : World} (h : SameOn S A B) (k : SameOn S B C) : SameOn S A C := ⟨Nat.le_trans h.size k.size, fun b hb => (k.same b hb).trans (h.same b hb)⟩
theorem Only.sameOn {S T : Nat → Prop} {A B : World} (h : Only T A B) (hS : ∀ b, S b → b < A.heap.size ∧ ¬ T b) : SameOn S A B := ⟨h.size, fun b hb => h.block b (hS b hb).1 (hS b hb).2⟩
def Yields (P : Program) (gf : Nat) (lb : Array Value) (n : Nat) (row : Nat → Array Value) (S T : Nat → Prop) (w : World) : Prop :=
  ∀ (l : Nat) (J Jx : Nat → World → Prop) (W : World), SameOn S w W →
    (∀ i A B, J i A → Only T A B → J i B) → (∀ i A B, Jx i A → Only T A B → Jx i B) →
    (∀ i A, i < n → J i A → YieldAt Fence.wide 9 P l (row i) A fun e B =>
      (e = .returned (.bool true) ∧ J (i + 1) B ∧ SameOn S A B) ∨ (e = .returned (.bool false) ∧ Jx (i + 1) B)) →
    J 0 W →
    CallsIn Fence.wide 9 P gf (#[.func (.yield l) #[] #[]] ++ lb) W fun e B => (∃ v, e = .returned v) ∧ (J n B ∨ ∃ i, i < n ∧ Jx (i + 1) B)
def roundEnds (N : Nat) (S : Nat → Prop) (I : Nat → World → Prop) (Ix : Code → Nat → World → Prop) (i : Nat) (A : World) : Exit → Act → World → Prop
  | .normal, _, B => KeepsFrom N A B ∧ SameOn S A B ∧ I (i + 1) B
  | .ret, _, B => KeepsFrom N A B ∧ Ix .ret (i + 1) B
  | .exit id, _, B => KeepsFrom N A B ∧ Ix (.exit id) (i + 1) B
  | .goto t, _, B => KeepsFrom N A B ∧ Ix (.goto t) (i + 1) B
  | .panic _, _, _ => False
  | .outgrown, _, _ => False
theorem wide_yield {n m : Nat} {P : Program} {l : Nat} {args : Array Value} {W : World} {R : Ending → World → Prop} (h : YieldAt Fence.wide n P l args W R) : YieldAt Fence.wide m P l args W R := by
  obtain ⟨fn, tmps, assign, body, hy, hF, hR⟩ := h
  exact ⟨fn, tmps, assign, body, hy, hF, fun c cs _ => hR c cs (room_wide _)⟩
theorem range_law {P : Program} {g : Operand} {ps : Array Tmp} {assign body : Code} {Q : Exit → Act → World → Prop} {a : Act} {w : World}
    {gf : Nat} {lb : Array Value} (hg : a.eval g = .func (.func gf) #[] lb) (eg : ∀ args w, (callFunc gf args).run P w = .ok (.enter gf args) w)
    {n : Nat} {row : Nat → Array Value} {S T : Nat → Prop} {w0 : World} (hy : Yields P gf lb n row S T w0) (hsame : SameOn S w0 w) (hS : ∀ b, S b → b < w.heap.size) (hT : ∀ b, T b → b < w.heap.size)
    (hps : ∀ i, (row i).size = ps.size)
    (I : Nat → World → Prop) (Ix : Code → Nat → World → Prop)
    (hI : ∀ i A B, I i A → Only T A B → I i B) (hIp : ∀ i A l o o', I i A → w.heap.size ≤ l → A.heap[l]? = some o → o.isCells = false → I i (A.putObj l o'))
    (hX : ∀ c i A B, Ix c i A → Only T A B → Ix c i B) (hXp : ∀ c i A l o o', Ix c i A → w.heap.size ≤ l → A.heap[l]? = some o → o.isCells = false → Ix c i (A.putObj l o'))
    (h0 : I 0 w) (a₁ : Nat → Act)
    (hassign : ∀ (l i : Nat) (W : World) (K : Act → World → Prop), K (a₁ i) W →
      assign.wpIn (Fence.wide.inRound l) 9 P (Exit.then K (fun _ _ _ => False)) { tmps := (ps.zip (row i)).foldl (fun t (p, v) => t.setIfInBounds p v) a.tmps, defers := [] } W)
    (hbody : ∀ (l i : Nat) (hi : i < n) (A : World), w.heap.size + 2 ≤ A.heap.size → I i A → body.wpIn (Fence.wide.inRound l) 9 P (roundEnds w.heap.size S I Ix i A) (a₁ i) A)
    (hdone : ∀ (A : World), I n A → A.heap[w.heap.size]? = some (.deferred (some [])) → Q .normal { a with defers := { target := .collected w.heap.size, args := #[] } :: a.defers } A)
    (hstop : ∀ (c : Code) (i : Nat) (A : World), i < n → Ix c (i + 1) A → A.heap[w.heap.size]? = some (.deferred (some [])) → c.wpIn Fence.wide 9 P Q { a with defers := { target := .collected w.heap.size, args := #[] } :: a.defers } A) :
    (Code.rangeFunc g ps assign body).wpIn Fence.wide 9 P Q a w := by
  refine wpIn_rangeFunc ?_
  intro fn hfn
  obtain ⟨rec, hrec⟩ : ∃ rec : LoopState → Option Code → Loop, rec = fun st pe => { state := st, pending := pe, fn, tmps := a.tmps, params := ps, assign, body, defers := w.heap.size } := ⟨_, rfl⟩
  obtain ⟨W1, hW1⟩ : ∃ W1, (w.alloc (.deferred (some []))).alloc (.loop (rec .ready none)) = W1 := ⟨_, rfl⟩
  have hs1 : W1.heap.size = w.heap.size + 2 := by rw [← hW1]; simp
  have hL1 : W1.heap[w.heap.size + 1]? = some (.loop (rec .ready none)) := by
    rw [← hW1]; have := World.alloc_heap_new (w.alloc (.deferred (some []))) (.loop (rec .ready none)); rwa [World.size_alloc] at this
  have hK1 : W1.heap[w.heap.size]? = some (.deferred (some [])) := by
    rw [← hW1]; exact (Below.heap_alloc _ _ _ (by simp)).trans (World.alloc_heap_new w _)
  have hI1 : I 0 W1 := hI 0 w W1 h0 (by rw [← hW1]; exact ((Only.refl T w).alloc _).alloc _)
  have hsame1 : SameOn S w0 W1 := ⟨by have := hsame.size; omega, fun b hb => by
    rw [← hW1, Below.heap_alloc _ _ _ (by have := hS b hb; simp; omega), Below.heap_alloc _ _ _ (hS b hb)]
    exact hsame.same b hb⟩
  refine ⟨w.heap.size + 1, [{ target := .collected w.heap.size, args := #[] }], W1, { target := .fn (.func gf) lb, args := #[.func (.yield (w.heap.size + 1)) #[] #[]] }, W1, gf,
    #[.func (.yield (w.heap.size + 1)) #[] #[]] ++ lb, W1, ?_, ?_, ?_, ?_, fun h => by simp [Fence.wide] at h, ?_⟩
  · rw [← hW1, hrec]; exact run_enterLoop_outer _ _ _ _ _
  · simp only [resolve, hg]
    simp [go_sem]
  · intro f' hf'; trivial
  · simp [invoke, go_sem, eg]
  · have hyy := hy (w.heap.size + 1)
      (fun i A => I i A ∧ w.heap.size + 2 ≤ A.heap.size ∧ A.heap[w.heap.size + 1]? = some (.loop (rec .ready none)) ∧ A.heap[w.heap.size]? = some (.deferred (some [])))
      (fun i A => ∃ c, Ix c i A ∧ A.heap[w.heap.size + 1]? = some (.loop (rec .done (some c))) ∧ A.heap[w.heap.size]? = some (.deferred (some [])))
      W1 hsame1
      (fun i A B h ho => ⟨hI i A B h.1 ho, Nat.le_trans h.2.1 ho.size, box_only h.2.2.1 ho (fun t => by have := hT _ t; omega), box_only h.2.2.2 ho (fun t => by have := hT _ t; omega)⟩)
      (fun i A B h ho => by
        obtain ⟨c, hc, hl, hk⟩ := h
        exact ⟨c, hX c i A B hc ho, box_only hl ho (fun t => by have := hT _ t; omega), box_only hk ho (fun t => by have := hT _ t; omega)⟩)
      ?_ ⟨hI1, by omega, hL1, hK1⟩
    · refine (callsIn_wide.2 (callsIn_wide.1 hyy)).mono ?_
      rintro e W2 ⟨⟨v, rfl⟩, (⟨hi, _, hl, hk⟩ | ⟨i, hlt, c, hi, hl, hk⟩)⟩
      · exact ⟨none, _, by have := run_endLoop (P := P) hl (by rw [hrec]; simp); rw [hrec] at this; exact this, hdone _ (hIp _ _ _ _ _ hi (by omega) hl rfl) ((World.putObj_heap_other (by omega)).trans hk)⟩
      · exact ⟨some c, _, by have := run_endLoop (P := P) hl (by rw [hrec]; simp); rw [hrec] at this; exact this, hstop c i _ hlt (hXp _ _ _ _ _ _ hi (by omega) hl rfl) ((World.putObj_heap_other (by omega)).trans hk)⟩
    · rintro i W hi ⟨hii, hsz, hl, hk⟩
      have hy' := run_yield (P := P) (args := row i) hl (by rw [hrec]; exact hps _)
      rw [hrec] at hy'
      refine wide_yield (n := 9) ⟨fn, _, assign, body, hy', roundIn_of_wpIn hfn (hassign _ i W _ ⟨_, run_beginRound hl (by rw [hrec]), ?_⟩)⟩
      have hlt : w.heap.size + 1 < W.heap.size := by omega
      have hl2 : (W.putObj (w.heap.size + 1) (.loop { rec .ready none with state := .busy })).heap[w.heap.size + 1]? = some (.loop { rec .ready none with state := .busy }) := World.putObj_heap_same hlt
      have hk2 : (W.putObj (w.heap.size + 1) (.loop { rec .ready none with state := .busy })).heap[w.heap.size]? = some (.deferred (some [])) := (World.putObj_heap_other (by omega)).trans hk
      have hS2 : ∀ (A : World) (o : Obj), SameOn S A (A.putObj (w.heap.size + 1) o) := fun A o => ⟨by rw [World.putObj_size]; exact Nat.le_refl _, fun b hb => World.putObj_heap_other (by have := hS b hb; omega)⟩
      refine wpIn_mono (hbody _ i hi _ (by rw [World.putObj_size]; exact hsz) (hIp _ _ _ _ _ hii (by omega) hl rfl)) ?_
      have fin : ∀ (jump : Option Code) (W3 : World), KeepsFrom w.heap.size (W.putObj (w.heap.size + 1) (.loop { rec .ready none with state := .busy })) W3 →
          (Instr.endRound (w.heap.size + 1) jump).run P W3 = .ok (.bool jump.isNone) (W3.putObj (w.heap.size + 1) (.loop (rec (if jump.isNone then .ready else .done) jump))) ∧
          W3.heap[w.heap.size + 1]? = some (.loop { rec .ready none with state := .busy }) ∧
          (W3.putObj (w.heap.size + 1) (.loop (rec (if jump.isNone then .ready else .done) jump))).heap[w.heap.size + 1]? = some (.loop (rec (if jump.isNone then .ready else .done) jump)) ∧
          (W3.putObj (w.heap.size + 1) (.loop (rec (if jump.isNone then .ready else .done) jump))).heap[w.heap.size]? = some (.deferred (some [])) ∧ w.heap.size + 2 ≤ (W3.putObj (w.heap.size + 1) (.loop (rec (if jump.isNone then .ready else .done) jump))).heap.size := fun jump W3 hk3 => by
        have hl3 := hk3.same _ _ (by omega) hl2 rfl
        have := run_endRound (P := P) jump hl3
        rw [hrec] at this ⊢
        exact ⟨this, by rw [hrec] at hl3; exact hl3, World.putObj_heap_same (Array.getElem?_eq_some_iff.1 hl3).1, (World.putObj_heap_other (by omega)).trans (hk3.same _ _ (by omega) hk2 rfl), by rw [World.putObj_size]; have := (Array.getElem?_eq_some_iff.1 hl3).1; omega⟩
      rintro e a3 W3 hp
      cases e with
      | normal =>
        obtain ⟨hk3, hkp3, hi3⟩ := hp
        obtain ⟨hr, hl3, hl4, hk4, hz4⟩ := fin none W3 hk3
        exact ⟨_, _, hr, .inl ⟨rfl, ⟨hIp _ _ _ _ _ hi3 (by omega) hl3 rfl, hz4, hl4, hk4⟩, ((hS2 _ _).trans hkp3).trans (hS2 _ _)⟩⟩
      | ret =>
        obtain ⟨hk3, hi3⟩ := hp
        obtain ⟨hr, hl3, hl4, hk4, _⟩ := fin (some .ret) W3 hk3
        exact ⟨_, _, hr, .inr ⟨rfl, .ret, hXp _ _ _ _ _ _ hi3 (by omega) hl3 rfl, hl4, hk4⟩⟩
      | exit id =>
        obtain ⟨hk3, hi3⟩ := hp
        obtain ⟨hr, hl3, hl4, hk4, _⟩ := fin (some (.exit id)) W3 hk3
        exact ⟨_, _, hr, .inr ⟨rfl, .exit id, hXp _ _ _ _ _ _ hi3 (by omega) hl3 rfl, hl4, hk4⟩⟩
      | goto t =>
        obtain ⟨hk3, hi3⟩ := hp
        obtain ⟨hr, hl3, hl4, hk4, _⟩ := fin (some (.goto t)) W3 hk3
        exact ⟨_, _, hr, .inr ⟨rfl, .goto t, hXp _ _ _ _ _ _ hi3 (by omega) hl3 rfl, hl4, hk4⟩⟩
      | panic ch => exact hp.elim
      | outgrown => exact hp.elim
end Go.Proofs.YtendielanacflaaGreat
