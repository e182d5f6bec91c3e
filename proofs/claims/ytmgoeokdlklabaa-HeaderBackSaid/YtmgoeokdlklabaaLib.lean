/- Owned slices of numbers: what a call makes itself, as a list; laws for make, append, load and store. -/
import Derived.Test.YtmgoeokdlklabaaBase
import Derived.Below
import Derived.OneCell
import Derived.OwnWalkIn
import Derived.Laws.BytesString
namespace Go.Proofs.Ytmgoeokdlklabaa
open Go.RowKit
set_option linter.unusedVariables false

/-- A slice type of numbers, as the program's tables have it. -/
structure ElemTy (P : Program) (T E : TypeId) (k : IntKind) (bytes : Nat) : Prop where
  und : P.underlying T = some (.slice E)
  info : (P.info? E).map (fun i => (i.zero, i.size, i.bytes)) = some (some (.int k 0), 1, bytes)
theorem Below.of_grown {B : Nat} {w w' : World} {row : Option Nat} (hg : w.grownBy w' row) (hB : B ≤ w.heap.size) (hr : ∀ k, row = some k → B ≤ k) : Below B w w' :=
  (Below.refl B w).grown hg hB hr

/-! ### N -/
def OwnN (E : TypeId) (k : IntKind) (w : World) (base : Nat) (a : Option Addr) (cap : Nat) (l : List Nat) : Prop :=
  w.ownsRow base E 1 (.slice a l.length cap) l.length (l.map fun (n : Nat) => Value.int k n)
section
variable {P : Program} {E : TypeId} {k : IntKind} {w w' : World} {base cap : Nat} {a : Option Addr} {l : List Nat}
theorem OwnN.nil (E : TypeId) (k : IntKind) (w : World) (base : Nat) : OwnN E k w base none 0 [] := World.ownsRow_nil w base E 1
theorem OwnN.lit0 (E : TypeId) (k : IntKind) (w : World) (base : Nat) (hb : base ≤ w.heap.size) : OwnN E k (w.alloc (.cells #[] E)) base (some ⟨w.heap.size, 0, none⟩) 0 [] :=
  World.ownsRow_made w #[] 0 hb (by decide) rfl
theorem OwnN.form (h : OwnN E k w base a cap l) : (a = none ∧ cap = 0 ∧ l = []) ∨ ∃ g, a = some ⟨g, 0, none⟩ ∧ base ≤ g ∧ g < w.heap.size := by
  rcases h.2 with ⟨h1, h2⟩ | ⟨g, c, cur, h1, h2, h3, _⟩
  · simp only [Value.slice.injEq] at h1
    exact .inl ⟨h1.1, h1.2.2, List.eq_nil_of_length_eq_zero h2⟩
  · simp only [Value.slice.injEq] at h1
    exact .inr ⟨g, h1.1, h2, (Array.getElem?_eq_some_iff.1 h3).1⟩
theorem OwnN.caps (h : OwnN E k w base a cap l) : l.length ≤ cap ∧ cap ≤ 9223372036854775807 := by
  rcases h.2 with ⟨h1, h2⟩ | ⟨g, c, cur, h1, h2, h3, h4, h5, _⟩
  · simp only [Value.slice.injEq] at h1
    omega
  · simp only [Value.slice.injEq] at h1
    obtain ⟨_, _, rfl⟩ := h1
    exact ⟨h4, by simpa [maxLen] using h5⟩
theorem OwnN.at (h : OwnN E k w base a cap l) {i : Nat} (hi : i < l.length) :
    ∃ g, a = some ⟨g, 0, none⟩ ∧ base ≤ g ∧ g < w.heap.size ∧ w.cell? ⟨g, i, none⟩ = some (.int k l[i]) ∧ w.frozen? ⟨g, i, none⟩ = false := by
  rcases h.form with ⟨_, _, rfl⟩ | ⟨g, rfl, hb, hg⟩
  · simp at hi
  · refine ⟨g, rfl, hb, hg, ?_, World.ownsRow.frozenAt h i⟩
    rw [World.ownsRow.cellAt h i (by omega)]
    simp [hi]
theorem OwnN.row (h : OwnN E k w base a cap l) : RowN k w a cap l := by
  refine ⟨h.caps.1, ⟨h.caps.2, fun hn => by rcases h.form with ⟨_, h1, _⟩ | ⟨g, h1, _⟩ <;> simp_all⟩, ?_⟩
  rcases h.form with ⟨_, _, rfl⟩ | ⟨g, rfl, hb, hg⟩
  · exact .inl rfl
  · refine .inr ⟨g, 0, rfl, hg, fun i hi => ?_⟩
    obtain ⟨g', he, _, _, hc, _⟩ := h.at hi
    simp only [Option.some.injEq, Addr.mk.injEq, and_true] at he
    subst he
    simpa using hc
theorem OwnN.kept {row : Option Nat} (h : OwnN E k w base a cap l) (hg : w.grownBy w' row) (hr : ∀ g, a = some ⟨g, 0, none⟩ → row ≠ some g) : OwnN E k w' base a cap l := by
  refine World.ownsRow.kept h hg ?_
  rcases h.form with ⟨rfl, _, _⟩ | ⟨g, rfl, hb, hgg⟩
  · exact .inl rfl
  · exact .inr fun e => hr g rfl e.symm
theorem OwnN.below (h : OwnN E k w base a cap l) (hb : Below w.heap.size w w') : OwnN E k w' base a cap l :=
  h.kept (row := none) ⟨hb.os, hb.tape, hb.output, hb.size, fun k hk _ => hb.block k hk⟩ (fun _ _ e => by cases e)
theorem OwnN.drew (h : OwnN E k w base a cap l) : OwnN E k w.drew base a cap l := h
theorem OwnN.alloc (h : OwnN E k w base a cap l) (o : Obj) : OwnN E k (w.alloc o) base a cap l := World.ownsRow.alloc h o
theorem OwnN.other (h : OwnN E k w base a cap l) {p : Addr} (hp : ∀ g, a = some ⟨g, 0, none⟩ → p.block ≠ g) (u : Value) : OwnN E k (w.setCell p u) base a cap l := by
  refine ownsRow_setCell_other h ?_ u
  rcases h.form with ⟨rfl, _, _⟩ | ⟨g, rfl, hb, hgg⟩
  · simp [Value.ownBlock]
  · simp only [Value.ownBlock, ne_eq, Option.some.injEq]
    exact fun e => hp g rfl e.symm
theorem OwnN.mono (h : OwnN E k w base a cap l) {b : Nat} (hb : b ≤ base) : OwnN E k w b a cap l := by
  refine ⟨h.1, ?_⟩
  rcases h.2 with h2 | ⟨g, c, cur, h1, h2, h3⟩
  · exact .inl h2
  · exact .inr ⟨g, c, cur, h1, by omega, h3⟩
theorem OwnN.stored {g : Nat} (h : OwnN E k w base (some ⟨g, 0, none⟩) cap l) (i : Nat) (x : Nat) :
    OwnN E k (w.setCell ⟨g, i, none⟩ (.int k x)) base (some ⟨g, 0, none⟩) cap (l.set i x) ∧ w.grownBy (w.setCell ⟨g, i, none⟩ (.int k x)) (some g) := by
  obtain ⟨h1, h2⟩ := World.ownsRow.stored h i (.int k x)
  refine ⟨?_, h2⟩
  unfold OwnN
  rw [List.map_set, List.length_set]
  exact h1
theorem cells_of_rowN {a : Option Addr} {cap : Nat} (h : RowN k w a cap l) : ∀ ad, a = some ad → ∀ j u, (l.map fun (n : Nat) => Value.int k n)[j]? = some u → w.cell? (ad.add j) = some u := by
  intro ad had j u hu
  have hj : j < l.length := by
    have := (List.getElem?_eq_some_iff.1 hu).1
    simpa using this
  obtain ⟨b, off, he, _, hc⟩ := h.at hj
  rw [had] at he
  cases he
  simp only [List.getElem?_map, List.getElem?_eq_getElem hj, Option.map_some, Option.some.injEq] at hu
  rw [← hu, ← hc]
  unfold Addr.add
  split
  · simp_all
  · rfl
end

section
variable {P : Program} {T E : TypeId} {k : IntKind} {bytes : Nat}
theorem makeN (et : ElemTy P T E k bytes) {w : World} {ops : Array Oper} {rest : List Oper} {o : Oper} {a : Act} {Q : Exit → Act → World → Prop}
    (hg : o.guard = none) (lo c : Operand) (hop : o.op = Op.makeSlice T lo c) (base : Nat) {kl kc : IntKind} {n : Nat} (hl : a.eval lo = .int kl n) (hc : a.eval c = .int kc n)
    (hb : bytes * n ≤ 281474976710656) (hn : n ≤ 9223372036854775807) (hbase : base ≤ w.heap.size)
    (hK : ∀ w', OwnN E k w' base (some ⟨w.heap.size, 0, none⟩) n (List.replicate n 0) → w.grownBy w' none → wpList P ops Q rest (a.put o.dst (.slice (some ⟨w.heap.size, 0, none⟩) n n)) w') :
    wpList P ops Q (o :: rest) a w := by
  obtain ⟨i, h2, h3, h4, h5⟩ := info_parts et.info
  refine wpList_plain (by assumption) fun K hK' => ?_
  obtain ⟨w', hrun, r1, r2⟩ := run_make_full (P := P) w base T E i (.int k 0) 1 et.und h2 h3 h4 kl kc n (by rw [h5]; exact hb) (by simpa [maxLen] using hn) hbase
  unfold Oper.wp
  simp [execOp, hop, hl, hc, hrun, Result.andThen]
  refine hK' _ _ (hK w' ?_ r2)
  unfold OwnN
  have hm : (madeCells (Value.int k 0).cells (n * 1)).toList = (List.replicate n (0 : Nat)).map fun (n : Nat) => Value.int k n := by
    rw [Nat.mul_one]; show (madeCells #[.int k 0] n).toList = _; rw [toList_madeCells_one]; simp
  rw [List.length_replicate, ← hm]
  exact r1
theorem appN (et : ElemTy P T E k bytes) {w : World} {ops : Array Oper} {rest : List Oper} {o : Oper} {ac : Act} {Q : Exit → Act → World → Prop} (hgd : o.guard = none) (s x : Operand)
    (ho : o.op = .call { callee := .builtin .append, args := #[s, x], argTypes := #[T, T] }) {base : Nat} {a : Option Addr} {cap m c : Nat} {l ys : List Nat}
    (hs : ac.eval s = .slice a l.length cap) (hown : OwnN E k w base a cap l) {b : Option Addr} (hm : m = ys.length) (hx : ac.eval x = .slice b m c) (hy : RowN k w b c ys)
    (hb0 : 0 < ys.length) (hn : l.length + m ≤ 9223372036854775807) (hbytes : (l.length + m) * bytes ≤ 140737488355328) (hbase : base ≤ w.heap.size)
    (h : ∀ a' cap' w', OwnN E k w' base a' cap' (l ++ ys) → w.grownBy w' (Value.slice a l.length cap).ownBlock → Below base w w' → wpList P ops Q rest (ac.put o.dst (.slice a' (l.length + m) cap')) w') :
    wpList P ops Q (o :: rest) ac w := by
  subst hm
  obtain ⟨i, h2, h3, h4, h5⟩ := info_parts et.info
  obtain ⟨bb, off, rfl, _⟩ := hy.at hb0
  refine wpList_plain (by assumption) fun K hK' => ?_
  obtain ⟨v', w', hr, h6, h7, h8⟩ := run_append_own (P := P) w base T o.type E i (.int k 0) 1 bytes et.und h2 h3 h4 h5 rfl (by decide) _ l.length _ hown ⟨bb, off, none⟩ ys.length c (ys.map fun (n : Nat) => Value.int k n) (by simp)
    (cells_of_rowN hy _ rfl) (by intro u hu; simp only [List.mem_map] at hu; obtain ⟨n, _, rfl⟩ := hu; rfl) (by simpa [maxLen] using hn) hbytes hbase
  have hv : ∃ a' cap', v' = .slice a' (l.length + ys.length) cap' := by
    rcases h6.2 with ⟨h9, h10⟩ | ⟨g, c', cur, h9, _⟩
    · exact ⟨none, 0, by rw [h9, h10]⟩
    · exact ⟨_, _, h9⟩
  obtain ⟨a', cap', rfl⟩ := hv
  have hown' : OwnN E k w' base a' cap' (l ++ ys) := by
    unfold OwnN; rw [List.length_append, List.map_append]; exact h6
  have hbel : Below base w w' := Below.of_grown h7 hbase (by
    intro g hg
    exact (World.ownsRow.lt hown g hg).1)
  unfold Oper.wp
  simp [execOp, ho, resolve, invoke, builtin, hs, hx, hr, Result.andThen]
  exact hK' _ _ (h a' cap' w' hown' h7 hbel)
/-- any slice of numbers behind an owned one, empty or nil too -/
theorem appAnyN (et : ElemTy P T E k bytes) {w : World} {ops : Array Oper} {rest : List Oper} {o : Oper} {ac : Act} {Q : Exit → Act → World → Prop} (hgd : o.guard = none) (s x : Operand)
    (ho : o.op = .call { callee := .builtin .append, args := #[s, x], argTypes := #[T, T] }) {base : Nat} {a : Option Addr} {cap m c : Nat} {l ys : List Nat}
    (hs : ac.eval s = .slice a l.length cap) (hown : OwnN E k w base a cap l) {b : Option Addr} (hm : m = ys.length) (hx : ac.eval x = .slice b m c) (hy : RowN k w b c ys)
    (hn : l.length + m ≤ 9223372036854775807) (hbytes : (l.length + m) * bytes ≤ 140737488355328) (hbase : base ≤ w.heap.size)
    (h : ∀ a' cap' w', OwnN E k w' base a' cap' (l ++ ys) → w.grownBy w' (Value.slice a l.length cap).ownBlock → Below base w w' → wpList P ops Q rest (ac.put o.dst (.slice a' (l.length + m) cap')) w') :
    wpList P ops Q (o :: rest) ac w := by
  by_cases hy0 : 0 < ys.length
  · exact appN et hgd s x ho hs hown hm hx hy hy0 hn hbytes hbase h
  subst hm
  obtain rfl : ys = [] := List.eq_nil_of_length_eq_zero (by omega)
  obtain ⟨i, h2, h3, h4, h5⟩ := info_parts et.info
  have h' : ∀ a' cap' w', OwnN E k w' base a' cap' l → w.grownBy w' (Value.slice a l.length cap).ownBlock → Below base w w' → wpList P ops Q rest (ac.put o.dst (.slice a' l.length cap')) w' := by
    intro a' cap' w' h6
    have := h a' cap' w' (by simpa using h6)
    simpa using this
  refine wpList_plain (by assumption) fun K hK' => ?_
  cases b with
  | none =>
    obtain rfl : c = 0 := hy.2.1.2 rfl
    have hr := run_append_owned_none (P := P) w base T o.type E i 1 et.und h2 _ l.length _ hown
    unfold Oper.wp
    simp [execOp, ho, resolve, invoke, builtin, hs, hx, hr, Result.andThen]
    exact hK' _ _ (h' a cap w hown (World.grownBy.refl _ _) (Below.refl _ _))
  | some ad =>
    obtain ⟨v', w', hr, h6, h7, h8⟩ := run_append_own (P := P) w base T o.type E i (.int k 0) 1 bytes et.und h2 h3 h4 h5 rfl (by decide) _ l.length _ hown ad 0 c [] (by simp)
      (by simp) (by simp) (by simpa [maxLen] using hn) (by simpa using hbytes) hbase
    have hv : ∃ a' cap', v' = .slice a' l.length cap' := by
      rcases h6.2 with ⟨h9, h10⟩ | ⟨g, c', cur, h9, _⟩
      · exact ⟨none, 0, by rw [h9]; simp at h10; rw [h10]; rfl⟩
      · exact ⟨_, _, h9⟩
    obtain ⟨a', cap', rfl⟩ := hv
    have hown' : OwnN E k w' base a' cap' l := by
      unfold OwnN; simpa using h6
    have hbel : Below base w w' := Below.of_grown h7 hbase (by
      intro g hg
      exact (World.ownsRow.lt hown g hg).1)
    unfold Oper.wp
    simp only [List.length_nil] at hx
    simp [execOp, ho, resolve, invoke, builtin, hs, hx, hr, Result.andThen]
    exact hK' _ _ (h' a' cap' w' hown' h7 hbel)
/-- one element, that lies in the block that was just made -/
theorem app1N (et : ElemTy P T E k bytes) {w : World} {ops : Array Oper} {rest : List Oper} {o : Oper} {ac : Act} {Q : Exit → Act → World → Prop} (hgd : o.guard = none) (s x : Operand)
    (ho : o.op = .call { callee := .builtin .append, args := #[s, x], argTypes := #[T, T] }) {base : Nat} {a : Option Addr} {cap : Nat} {l : List Nat} {y : Nat} {c E' : Nat}
    (hs : ac.eval s = .slice a l.length cap) (hown : OwnN E k w base a cap l) (hx : ac.eval x = .slice (some ⟨w.heap.size, 0, none⟩) 1 c) (hc : 1 ≤ c) (hc' : c ≤ 9223372036854775807)
    (hn : l.length + 1 ≤ 9223372036854775807) (hbytes : (l.length + 1) * bytes ≤ 140737488355328) (hbase : base ≤ w.heap.size)
    (h : ∀ a' cap' w', OwnN E k w' base a' cap' (l ++ [y]) → w.grownBy w' (Value.slice a l.length cap).ownBlock → Below base w w' → wpList P ops Q rest (ac.put o.dst (.slice a' (l.length + 1) cap')) w') :
    wpList P ops Q (o :: rest) ac (w.alloc (.cells #[.int k y] E')) := by
  refine appN et hgd s x ho hs (hown.alloc _) (ys := [y]) rfl hx ?_ (by simp) hn hbytes (by simp; omega) ?_
  · refine ⟨by simpa using hc, ⟨hc', fun hn => by cases hn⟩, .inr ⟨w.heap.size, 0, rfl, by simp, fun i hi => ?_⟩⟩
    obtain rfl : i = 0 := by simp at hi; omega
    simp [World.cell?_alloc_at]
  · intro a' cap' w' h1 h2 h3
    refine h a' cap' w' h1 ⟨h2.os, h2.tape, h2.output, Nat.le_trans (by simp) h2.size, fun q hq hr => (h2.block q (by simp; omega) hr).trans (Below.heap_alloc _ _ _ hq)⟩ (((Below.refl base w).alloc hbase _).trans h3)
end

section
variable {P : Program} {T E : TypeId} {k : IntKind} {bytes : Nat} {F : Fence} {dep : Nat}
theorem makeNIn (et : ElemTy P T E k bytes) {w : World} {ops : Array Oper} {rest : List Oper} {o : Oper} {a : Act} {Q : Exit → Act → World → Prop}
    (hg : o.guard = none) (lo c : Operand) (hop : o.op = Op.makeSlice T lo c) (base : Nat) {kl kc : IntKind} {n : Nat} (hl : a.eval lo = .int kl n) (hc : a.eval c = .int kc n)
    (hb : bytes * n ≤ 281474976710656) (hn : n ≤ 9223372036854775807) (hbase : base ≤ w.heap.size)
    (hK : ∀ w', OwnN E k w' base (some ⟨w.heap.size, 0, none⟩) n (List.replicate n 0) → w.grownBy w' none → wpListIn F dep P ops Q rest (a.put o.dst (.slice (some ⟨w.heap.size, 0, none⟩) n n)) w') :
    wpListIn F dep P ops Q (o :: rest) a w := by
  obtain ⟨i, h2, h3, h4, h5⟩ := info_parts et.info
  refine wpListIn_plain (by assumption) fun K hK' => ?_
  obtain ⟨w', hrun, r1, r2⟩ := run_make_full (P := P) w base T E i (.int k 0) 1 et.und h2 h3 h4 kl kc n (by rw [h5]; exact hb) (by simpa [maxLen] using hn) hbase
  unfold Oper.wpIn
  refine ⟨by simp [Oper.about, hop], ?_⟩
  rw [Oper.semAt_plain F _ _ (by rw [hop]; intro c hc'; cases hc')]
  simp [execOp, hop, hl, hc, hrun, Result.andThen]
  refine hK' _ _ (hK w' ?_ r2)
  unfold OwnN
  have hm : (madeCells (Value.int k 0).cells (n * 1)).toList = (List.replicate n (0 : Nat)).map fun (n : Nat) => Value.int k n := by
    rw [Nat.mul_one]; show (madeCells #[.int k 0] n).toList = _; rw [toList_madeCells_one]; simp
  rw [List.length_replicate, ← hm]
  exact r1
theorem appNIn (et : ElemTy P T E k bytes) {w : World} {ops : Array Oper} {rest : List Oper} {o : Oper} {ac : Act} {Q : Exit → Act → World → Prop} (hgd : o.guard = none) (s x : Operand)
    (ho : o.op = .call { callee := .builtin .append, args := #[s, x], argTypes := #[T, T] }) {base : Nat} {a : Option Addr} {cap m c : Nat} {l ys : List Nat}
    (hs : ac.eval s = .slice a l.length cap) (hown : OwnN E k w base a cap l) {b : Option Addr} (hm : m = ys.length) (hx : ac.eval x = .slice b m c) (hy : RowN k w b c ys)
    (hb0 : 0 < ys.length) (hn : l.length + m ≤ 9223372036854775807) (hbytes : (l.length + m) * bytes ≤ 140737488355328) (hbase : base ≤ w.heap.size)
    (h : ∀ a' cap' w', OwnN E k w' base a' cap' (l ++ ys) → w.grownBy w' (Value.slice a l.length cap).ownBlock → Below base w w' → wpListIn F dep P ops Q rest (ac.put o.dst (.slice a' (l.length + m) cap')) w') :
    wpListIn F dep P ops Q (o :: rest) ac w := by
  subst hm
  obtain ⟨i, h2, h3, h4, h5⟩ := info_parts et.info
  obtain ⟨bb, off, rfl, _⟩ := hy.at hb0
  refine wpListIn_plain (by assumption) fun K hK' => ?_
  obtain ⟨v', w', hr, h6, h7, h8⟩ := run_append_own (P := P) w base T o.type E i (.int k 0) 1 bytes et.und h2 h3 h4 h5 rfl (by decide) _ l.length _ hown ⟨bb, off, none⟩ ys.length c (ys.map fun (n : Nat) => Value.int k n) (by simp)
    (cells_of_rowN hy _ rfl) (by intro u hu; simp only [List.mem_map] at hu; obtain ⟨n, _, rfl⟩ := hu; rfl) (by simpa [maxLen] using hn) hbytes hbase
  have hv : ∃ a' cap', v' = .slice a' (l.length + ys.length) cap' := by
    rcases h6.2 with ⟨h9, h10⟩ | ⟨g, c', cur, h9, _⟩
    · exact ⟨none, 0, by rw [h9, h10]⟩
    · exact ⟨_, _, h9⟩
  obtain ⟨a', cap', rfl⟩ := hv
  have hown' : OwnN E k w' base a' cap' (l ++ ys) := by
    unfold OwnN; rw [List.length_append, List.map_append]; exact h6
  have hbel : Below base w w' := Below.of_grown h7 hbase (by
    intro g hg
    exact (World.ownsRow.lt hown g hg).1)
  unfold Oper.wpIn
  refine ⟨by simp [Oper.about, ho, resolve, Target.leads, Sem.run_pure], ?_⟩
  rw [Oper.semAt_plain F _ _ (by rw [ho]; intro c hc'; cases hc')]
  simp [execOp, ho, resolve, invoke, builtin, hs, hx, hr, Result.andThen]
  exact hK' _ _ (h a' cap' w' hown' h7 hbel)
/-- any slice of numbers behind an owned one, empty or nil too -/
theorem appAnyNIn (et : ElemTy P T E k bytes) {w : World} {ops : Array Oper} {rest : List Oper} {o : Oper} {ac : Act} {Q : Exit → Act → World → Prop} (hgd : o.guard = none) (s x : Operand)
    (ho : o.op = .call { callee := .builtin .append, args := #[s, x], argTypes := #[T, T] }) {base : Nat} {a : Option Addr} {cap m c : Nat} {l ys : List Nat}
    (hs : ac.eval s = .slice a l.length cap) (hown : OwnN E k w base a cap l) {b : Option Addr} (hm : m = ys.length) (hx : ac.eval x = .slice b m c) (hy : RowN k w b c ys)
    (hn : l.length + m ≤ 9223372036854775807) (hbytes : (l.length + m) * bytes ≤ 140737488355328) (hbase : base ≤ w.heap.size)
    (h : ∀ a' cap' w', OwnN E k w' base a' cap' (l ++ ys) → w.grownBy w' (Value.slice a l.length cap).ownBlock → Below base w w' → wpListIn F dep P ops Q rest (ac.put o.dst (.slice a' (l.length + m) cap')) w') :
    wpListIn F dep P ops Q (o :: rest) ac w := by
  by_cases hy0 : 0 < ys.length
  · exact appNIn et hgd s x ho hs hown hm hx hy hy0 hn hbytes hbase h
  subst hm
  obtain rfl : ys = [] := List.eq_nil_of_length_eq_zero (by omega)
  obtain ⟨i, h2, h3, h4, h5⟩ := info_parts et.info
  have h' : ∀ a' cap' w', OwnN E k w' base a' cap' l → w.grownBy w' (Value.slice a l.length cap).ownBlock → Below base w w' → wpListIn F dep P ops Q rest (ac.put o.dst (.slice a' l.length cap')) w' := by
    intro a' cap' w' h6
    have := h a' cap' w' (by simpa using h6)
    simpa using this
  refine wpListIn_plain (by assumption) fun K hK' => ?_
  cases b with
  | none =>
    obtain rfl : c = 0 := hy.2.1.2 rfl
    have hr := run_append_owned_none (P := P) w base T o.type E i 1 et.und h2 _ l.length _ hown
    unfold Oper.wpIn
    refine ⟨by simp [Oper.about, ho, resolve, Target.leads, Sem.run_pure], ?_⟩
    rw [Oper.semAt_plain F _ _ (by rw [ho]; intro c hc'; cases hc')]
    simp [execOp, ho, resolve, invoke, builtin, hs, hx, hr, Result.andThen]
    exact hK' _ _ (h' a cap w hown (World.grownBy.refl _ _) (Below.refl _ _))
  | some ad =>
    obtain ⟨v', w', hr, h6, h7, h8⟩ := run_append_own (P := P) w base T o.type E i (.int k 0) 1 bytes et.und h2 h3 h4 h5 rfl (by decide) _ l.length _ hown ad 0 c [] (by simp)
      (by simp) (by simp) (by simpa [maxLen] using hn) (by simpa using hbytes) hbase
    have hv : ∃ a' cap', v' = .slice a' l.length cap' := by
      rcases h6.2 with ⟨h9, h10⟩ | ⟨g, c', cur, h9, _⟩
      · exact ⟨none, 0, by rw [h9]; simp at h10; rw [h10]; rfl⟩
      · exact ⟨_, _, h9⟩
    obtain ⟨a', cap', rfl⟩ := hv
    have hown' : OwnN E k w' base a' cap' l := by
      unfold OwnN; simpa using h6
    have hbel : Below base w w' := Below.of_grown h7 hbase (by
      intro g hg
      exact (World.ownsRow.lt hown g hg).1)
    unfold Oper.wpIn
    refine ⟨by simp [Oper.about, ho, resolve, Target.leads, Sem.run_pure], ?_⟩
    rw [Oper.semAt_plain F _ _ (by rw [ho]; intro c hc'; cases hc')]
    simp only [List.length_nil] at hx
    simp [execOp, ho, resolve, invoke, builtin, hs, hx, hr, Result.andThen]
    exact hK' _ _ (h' a' cap' w' hown' h7 hbel)
/-- one element, that lies in the block that was just made -/
theorem app1NIn (et : ElemTy P T E k bytes) {w : World} {ops : Array Oper} {rest : List Oper} {o : Oper} {ac : Act} {Q : Exit → Act → World → Prop} (hgd : o.guard = none) (s x : Operand)
    (ho : o.op = .call { callee := .builtin .append, args := #[s, x], argTypes := #[T, T] }) {base : Nat} {a : Option Addr} {cap : Nat} {l : List Nat} {y : Nat} {c E' : Nat}
    (hs : ac.eval s = .slice a l.length cap) (hown : OwnN E k w base a cap l) (hx : ac.eval x = .slice (some ⟨w.heap.size, 0, none⟩) 1 c) (hc : 1 ≤ c) (hc' : c ≤ 9223372036854775807)
    (hn : l.length + 1 ≤ 9223372036854775807) (hbytes : (l.length + 1) * bytes ≤ 140737488355328) (hbase : base ≤ w.heap.size)
    (h : ∀ a' cap' w', OwnN E k w' base a' cap' (l ++ [y]) → w.grownBy w' (Value.slice a l.length cap).ownBlock → Below base w w' → wpListIn F dep P ops Q rest (ac.put o.dst (.slice a' (l.length + 1) cap')) w') :
    wpListIn F dep P ops Q (o :: rest) ac (w.alloc (.cells #[.int k y] E')) := by
  refine appNIn et hgd s x ho hs (hown.alloc _) (ys := [y]) rfl hx ?_ (by simp) hn hbytes (by simp; omega) ?_
  · refine ⟨by simpa using hc, ⟨hc', fun hn => by cases hn⟩, .inr ⟨w.heap.size, 0, rfl, by simp, fun i hi => ?_⟩⟩
    obtain rfl : i = 0 := by simp at hi; omega
    simp [World.cell?_alloc_at]
  · intro a' cap' w' h1 h2 h3
    refine h a' cap' w' h1 ⟨h2.os, h2.tape, h2.output, Nat.le_trans (by simp) h2.size, fun q hq hr => (h2.block q (by simp; omega) hr).trans (Below.heap_alloc _ _ _ hq)⟩ (((Below.refl base w).alloc hbase _).trans h3)
end

/-! ### I -/
def OwnI (E : TypeId) (k : IntKind) (w : World) (base : Nat) (a : Option Addr) (cap : Nat) (l : List Int) : Prop :=
  w.ownsRow base E 1 (.slice a l.length cap) l.length (l.map fun (n : Int) => Value.int k n)
section
variable {P : Program} {E : TypeId} {k : IntKind} {w w' : World} {base cap : Nat} {a : Option Addr} {l : List Int}
theorem OwnI.nil (E : TypeId) (k : IntKind) (w : World) (base : Nat) : OwnI E k w base none 0 [] := World.ownsRow_nil w base E 1
theorem OwnI.lit0 (E : TypeId) (k : IntKind) (w : World) (base : Nat) (hb : base ≤ w.heap.size) : OwnI E k (w.alloc (.cells #[] E)) base (some ⟨w.heap.size, 0, none⟩) 0 [] :=
  World.ownsRow_made w #[] 0 hb (by decide) rfl
theorem OwnI.form (h : OwnI E k w base a cap l) : (a = none ∧ cap = 0 ∧ l = []) ∨ ∃ g, a = some ⟨g, 0, none⟩ ∧ base ≤ g ∧ g < w.heap.size := by
  rcases h.2 with ⟨h1, h2⟩ | ⟨g, c, cur, h1, h2, h3, _⟩
  · simp only [Value.slice.injEq] at h1
    exact .inl ⟨h1.1, h1.2.2, List.eq_nil_of_length_eq_zero h2⟩
  · simp only [Value.slice.injEq] at h1
    exact .inr ⟨g, h1.1, h2, (Array.getElem?_eq_some_iff.1 h3).1⟩
theorem OwnI.caps (h : OwnI E k w base a cap l) : l.length ≤ cap ∧ cap ≤ 9223372036854775807 := by
  rcases h.2 with ⟨h1, h2⟩ | ⟨g, c, cur, h1, h2, h3, h4, h5, _⟩
  · simp only [Value.slice.injEq] at h1
    omega
  · simp only [Value.slice.injEq] at h1
    obtain ⟨_, _, rfl⟩ := h1
    exact ⟨h4, by simpa [maxLen] using h5⟩
theorem OwnI.at (h : OwnI E k w base a cap l) {i : Nat} (hi : i < l.length) :
    ∃ g, a = some ⟨g, 0, none⟩ ∧ base ≤ g ∧ g < w.heap.size ∧ w.cell? ⟨g, i, none⟩ = some (.int k l[i]) ∧ w.frozen? ⟨g, i, none⟩ = false := by
  rcases h.form with ⟨_, _, rfl⟩ | ⟨g, rfl, hb, hg⟩
  · simp at hi
  · refine ⟨g, rfl, hb, hg, ?_, World.ownsRow.frozenAt h i⟩
    rw [World.ownsRow.cellAt h i (by omega)]
    simp [hi]
theorem OwnI.row (h : OwnI E k w base a cap l) : RowI k w a cap l := by
  refine ⟨h.caps.1, ⟨h.caps.2, fun hn => by rcases h.form with ⟨_, h1, _⟩ | ⟨g, h1, _⟩ <;> simp_all⟩, ?_⟩
  rcases h.form with ⟨_, _, rfl⟩ | ⟨g, rfl, hb, hg⟩
  · exact .inl rfl
  · refine .inr ⟨g, 0, rfl, hg, fun i hi => ?_⟩
    obtain ⟨g', he, _, _, hc, _⟩ := h.at hi
    simp only [Option.some.injEq, Addr.mk.injEq, and_true] at he
    subst he
    simpa using hc
theorem OwnI.kept {row : Option Nat} (h : OwnI E k w base a cap l) (hg : w.grownBy w' row) (hr : ∀ g, a = some ⟨g, 0, none⟩ → row ≠ some g) : OwnI E k w' base a cap l := by
  refine World.ownsRow.kept h hg ?_
  rcases h.form with ⟨rfl, _, _⟩ | ⟨g, rfl, hb, hgg⟩
  · exact .inl rfl
  · exact .inr fun e => hr g rfl e.symm
theorem OwnI.below (h : OwnI E k w base a cap l) (hb : Below w.heap.size w w') : OwnI E k w' base a cap l :=
  h.kept (row := none) ⟨hb.os, hb.tape, hb.output, hb.size, fun k hk _ => hb.block k hk⟩ (fun _ _ e => by cases e)
theorem OwnI.drew (h : OwnI E k w base a cap l) : OwnI E k w.drew base a cap l := h
theorem OwnI.alloc (h : OwnI E k w base a cap l) (o : Obj) : OwnI E k (w.alloc o) base a cap l := World.ownsRow.alloc h o
theorem OwnI.other (h : OwnI E k w base a cap l) {p : Addr} (hp : ∀ g, a = some ⟨g, 0, none⟩ → p.block ≠ g) (u : Value) : OwnI E k (w.setCell p u) base a cap l := by
  refine ownsRow_setCell_other h ?_ u
  rcases h.form with ⟨rfl, _, _⟩ | ⟨g, rfl, hb, hgg⟩
  · simp [Value.ownBlock]
  · simp only [Value.ownBlock, ne_eq, Option.some.injEq]
    exact fun e => hp g rfl e.symm
theorem OwnI.mono (h : OwnI E k w base a cap l) {b : Nat} (hb : b ≤ base) : OwnI E k w b a cap l := by
  refine ⟨h.1, ?_⟩
  rcases h.2 with h2 | ⟨g, c, cur, h1, h2, h3⟩
  · exact .inl h2
  · exact .inr ⟨g, c, cur, h1, by omega, h3⟩
theorem OwnI.stored {g : Nat} (h : OwnI E k w base (some ⟨g, 0, none⟩) cap l) (i : Nat) (x : Int) :
    OwnI E k (w.setCell ⟨g, i, none⟩ (.int k x)) base (some ⟨g, 0, none⟩) cap (l.set i x) ∧ w.grownBy (w.setCell ⟨g, i, none⟩ (.int k x)) (some g) := by
  obtain ⟨h1, h2⟩ := World.ownsRow.stored h i (.int k x)
  refine ⟨?_, h2⟩
  unfold OwnI
  rw [List.map_set, List.length_set]
  exact h1
theorem cells_of_rowI {a : Option Addr} {cap : Nat} (h : RowI k w a cap l) : ∀ ad, a = some ad → ∀ j u, (l.map fun (n : Int) => Value.int k n)[j]? = some u → w.cell? (ad.add j) = some u := by
  intro ad had j u hu
  have hj : j < l.length := by
    have := (List.getElem?_eq_some_iff.1 hu).1
    simpa using this
  obtain ⟨b, off, he, _, hc⟩ := h.at hj
  rw [had] at he
  cases he
  simp only [List.getElem?_map, List.getElem?_eq_getElem hj, Option.map_some, Option.some.injEq] at hu
  rw [← hu, ← hc]
  unfold Addr.add
  split
  · simp_all
  · rfl
end

section
variable {P : Program} {T E : TypeId} {k : IntKind} {bytes : Nat}
theorem makeI (et : ElemTy P T E k bytes) {w : World} {ops : Array Oper} {rest : List Oper} {o : Oper} {a : Act} {Q : Exit → Act → World → Prop}
    (hg : o.guard = none) (lo c : Operand) (hop : o.op = Op.makeSlice T lo c) (base : Nat) {kl kc : IntKind} {n : Nat} (hl : a.eval lo = .int kl n) (hc : a.eval c = .int kc n)
    (hb : bytes * n ≤ 281474976710656) (hn : n ≤ 9223372036854775807) (hbase : base ≤ w.heap.size)
    (hK : ∀ w', OwnI E k w' base (some ⟨w.heap.size, 0, none⟩) n (List.replicate n 0) → w.grownBy w' none → wpList P ops Q rest (a.put o.dst (.slice (some ⟨w.heap.size, 0, none⟩) n n)) w') :
    wpList P ops Q (o :: rest) a w := by
  obtain ⟨i, h2, h3, h4, h5⟩ := info_parts et.info
  refine wpList_plain (by assumption) fun K hK' => ?_
  obtain ⟨w', hrun, r1, r2⟩ := run_make_full (P := P) w base T E i (.int k 0) 1 et.und h2 h3 h4 kl kc n (by rw [h5]; exact hb) (by simpa [maxLen] using hn) hbase
  unfold Oper.wp
  simp [execOp, hop, hl, hc, hrun, Result.andThen]
  refine hK' _ _ (hK w' ?_ r2)
  unfold OwnI
  have hm : (madeCells (Value.int k 0).cells (n * 1)).toList = (List.replicate n (0 : Int)).map fun (n : Int) => Value.int k n := by
    rw [Nat.mul_one]; show (madeCells #[.int k 0] n).toList = _; rw [toList_madeCells_one]; simp
  rw [List.length_replicate, ← hm]
  exact r1
theorem appI (et : ElemTy P T E k bytes) {w : World} {ops : Array Oper} {rest : List Oper} {o : Oper} {ac : Act} {Q : Exit → Act → World → Prop} (hgd : o.guard = none) (s x : Operand)
    (ho : o.op = .call { callee := .builtin .append, args := #[s, x], argTypes := #[T, T] }) {base : Nat} {a : Option Addr} {cap m c : Nat} {l ys : List Int}
    (hs : ac.eval s = .slice a l.length cap) (hown : OwnI E k w base a cap l) {b : Option Addr} (hm : m = ys.length) (hx : ac.eval x = .slice b m c) (hy : RowI k w b c ys)
    (hb0 : 0 < ys.length) (hn : l.length + m ≤ 9223372036854775807) (hbytes : (l.length + m) * bytes ≤ 140737488355328) (hbase : base ≤ w.heap.size)
    (h : ∀ a' cap' w', OwnI E k w' base a' cap' (l ++ ys) → w.grownBy w' (Value.slice a l.length cap).ownBlock → Below base w w' → wpList P ops Q rest (ac.put o.dst (.slice a' (l.length + m) cap')) w') :
    wpList P ops Q (o :: rest) ac w := by
  subst hm
  obtain ⟨i, h2, h3, h4, h5⟩ := info_parts et.info
  obtain ⟨bb, off, rfl, _⟩ := hy.at hb0
  refine wpList_plain (by assumption) fun K hK' => ?_
  obtain ⟨v', w', hr, h6, h7, h8⟩ := run_append_own (P := P) w base T o.type E i (.int k 0) 1 bytes et.und h2 h3 h4 h5 rfl (by decide) _ l.length _ hown ⟨bb, off, none⟩ ys.length c (ys.map fun (n : Int) => Value.int k n) (by simp)
    (cells_of_rowI hy _ rfl) (by intro u hu; simp only [List.mem_map] at hu; obtain ⟨n, _, rfl⟩ := hu; rfl) (by simpa [maxLen] using hn) hbytes hbase
  have hv : ∃ a' cap', v' = .slice a' (l.length + ys.length) cap' := by
    rcases h6.2 with ⟨h9, h10⟩ | ⟨g, c', cur, h9, _⟩
    · exact ⟨none, 0, by rw [h9, h10]⟩
    · exact ⟨_, _, h9⟩
  obtain ⟨a', cap', rfl⟩ := hv
  have hown' : OwnI E k w' base a' cap' (l ++ ys) := by
    unfold OwnI; rw [List.length_append, List.map_append]; exact h6
  have hbel : Below base w w' := Below.of_grown h7 hbase (by
    intro g hg
    exact (World.ownsRow.lt hown g hg).1)
  unfold Oper.wp
  simp [execOp, ho, resolve, invoke, builtin, hs, hx, hr, Result.andThen]
  exact hK' _ _ (h a' cap' w' hown' h7 hbel)
/-- any slice of numbers behind an owned one, empty or nil too -/
theorem appAnyI (et : ElemTy P T E k bytes) {w : World} {ops : Array Oper} {rest : List Oper} {o : Oper} {ac : Act} {Q : Exit → Act → World → Prop} (hgd : o.guard = none) (s x : Operand)
    (ho : o.op = .call { callee := .builtin .append, args := #[s, x], argTypes := #[T, T] }) {base : Nat} {a : Option Addr} {cap m c : Nat} {l ys : List Int}
    (hs : ac.eval s = .slice a l.length cap) (hown : OwnI E k w base a cap l) {b : Option Addr} (hm : m = ys.length) (hx : ac.eval x = .slice b m c) (hy : RowI k w b c ys)
    (hn : l.length + m ≤ 9223372036854775807) (hbytes : (l.length + m) * bytes ≤ 140737488355328) (hbase : base ≤ w.heap.size)
    (h : ∀ a' cap' w', OwnI E k w' base a' cap' (l ++ ys) → w.grownBy w' (Value.slice a l.length cap).ownBlock → Below base w w' → wpList P ops Q rest (ac.put o.dst (.slice a' (l.length + m) cap')) w') :
    wpList P ops Q (o :: rest) ac w := by
  by_cases hy0 : 0 < ys.length
  · exact appI et hgd s x ho hs hown hm hx hy hy0 hn hbytes hbase h
  subst hm
  obtain rfl : ys = [] := List.eq_nil_of_length_eq_zero (by omega)
  obtain ⟨i, h2, h3, h4, h5⟩ := info_parts et.info
  have h' : ∀ a' cap' w', OwnI E k w' base a' cap' l → w.grownBy w' (Value.slice a l.length cap).ownBlock → Below base w w' → wpList P ops Q rest (ac.put o.dst (.slice a' l.length cap')) w' := by
    intro a' cap' w' h6
    have := h a' cap' w' (by simpa using h6)
    simpa using this
  refine wpList_plain (by assumption) fun K hK' => ?_
  cases b with
  | none =>
    obtain rfl : c = 0 := hy.2.1.2 rfl
    have hr := run_append_owned_none (P := P) w base T o.type E i 1 et.und h2 _ l.length _ hown
    unfold Oper.wp
    simp [execOp, ho, resolve, invoke, builtin, hs, hx, hr, Result.andThen]
    exact hK' _ _ (h' a cap w hown (World.grownBy.refl _ _) (Below.refl _ _))
  | some ad =>
    obtain ⟨v', w', hr, h6, h7, h8⟩ := run_append_own (P := P) w base T o.type E i (.int k 0) 1 bytes et.und h2 h3 h4 h5 rfl (by decide) _ l.length _ hown ad 0 c [] (by simp)
      (by simp) (by simp) (by simpa [maxLen] using hn) (by simpa using hbytes) hbase
    have hv : ∃ a' cap', v' = .slice a' l.length cap' := by
      rcases h6.2 with ⟨h9, h10⟩ | ⟨g, c', cur, h9, _⟩
      · exact ⟨none, 0, by rw [h9]; simp at h10; rw [h10]; rfl⟩
      · exact ⟨_, _, h9⟩
    obtain ⟨a', cap', rfl⟩ := hv
    have hown' : OwnI E k w' base a' cap' l := by
      unfold OwnI; simpa using h6
    have hbel : Below base w w' := Below.of_grown h7 hbase (by
      intro g hg
      exact (World.ownsRow.lt hown g hg).1)
    unfold Oper.wp
    simp only [List.length_nil] at hx
    simp [execOp, ho, resolve, invoke, builtin, hs, hx, hr, Result.andThen]
    exact hK' _ _ (h' a' cap' w' hown' h7 hbel)
/-- one element, that lies in the block that was just made -/
theorem app1I (et : ElemTy P T E k bytes) {w : World} {ops : Array Oper} {rest : List Oper} {o : Oper} {ac : Act} {Q : Exit → Act → World → Prop} (hgd : o.guard = none) (s x : Operand)
    (ho : o.op = .call { callee := .builtin .append, args := #[s, x], argTypes := #[T, T] }) {base : Nat} {a : Option Addr} {cap : Nat} {l : List Int} {y : Int} {c E' : Nat}
    (hs : ac.eval s = .slice a l.length cap) (hown : OwnI E k w base a cap l) (hx : ac.eval x = .slice (some ⟨w.heap.size, 0, none⟩) 1 c) (hc : 1 ≤ c) (hc' : c ≤ 9223372036854775807)
    (hn : l.length + 1 ≤ 9223372036854775807) (hbytes : (l.length + 1) * bytes ≤ 140737488355328) (hbase : base ≤ w.heap.size)
    (h : ∀ a' cap' w', OwnI E k w' base a' cap' (l ++ [y]) → w.grownBy w' (Value.slice a l.length cap).ownBlock → Below base w w' → wpList P ops Q rest (ac.put o.dst (.slice a' (l.length + 1) cap')) w') :
    wpList P ops Q (o :: rest) ac (w.alloc (.cells #[.int k y] E')) := by
  refine appI et hgd s x ho hs (hown.alloc _) (ys := [y]) rfl hx ?_ (by simp) hn hbytes (by simp; omega) ?_
  · refine ⟨by simpa using hc, ⟨hc', fun hn => by cases hn⟩, .inr ⟨w.heap.size, 0, rfl, by simp, fun i hi => ?_⟩⟩
    obtain rfl : i = 0 := by simp at hi; omega
    simp [World.cell?_alloc_at]
  · intro a' cap' w' h1 h2 h3
    refine h a' cap' w' h1 ⟨h2.os, h2.tape, h2.output, Nat.le_trans (by simp) h2.size, fun q hq hr => (h2.block q (by simp; omega) hr).trans (Below.heap_alloc _ _ _ hq)⟩ (((Below.refl base w).alloc hbase _).trans h3)
end

section
variable {P : Program} {T E : TypeId} {k : IntKind} {bytes : Nat} {F : Fence} {dep : Nat}
theorem makeIIn (et : ElemTy P T E k bytes) {w : World} {ops : Array Oper} {rest : List Oper} {o : Oper} {a : Act} {Q : Exit → Act → World → Prop}
    (hg : o.guard = none) (lo c : Operand) (hop : o.op = Op.makeSlice T lo c) (base : Nat) {kl kc : IntKind} {n : Nat} (hl : a.eval lo = .int kl n) (hc : a.eval c = .int kc n)
    (hb : bytes * n ≤ 281474976710656) (hn : n ≤ 9223372036854775807) (hbase : base ≤ w.heap.size)
    (hK : ∀ w', OwnI E k w' base (some ⟨w.heap.size, 0, none⟩) n (List.replicate n 0) → w.grownBy w' none → wpListIn F dep P ops Q rest (a.put o.dst (.slice (some ⟨w.heap.size, 0, none⟩) n n)) w') :
    wpListIn F dep P ops Q (o :: rest) a w := by
  obtain ⟨i, h2, h3, h4, h5⟩ := info_parts et.info
  refine wpListIn_plain (by assumption) fun K hK' => ?_
  obtain ⟨w', hrun, r1, r2⟩ := run_make_full (P := P) w base T E i (.int k 0) 1 et.und h2 h3 h4 kl kc n (by rw [h5]; exact hb) (by simpa [maxLen] using hn) hbase
  unfold Oper.wpIn
  refine ⟨by simp [Oper.about, hop], ?_⟩
  rw [Oper.semAt_plain F _ _ (by rw [hop]; intro c hc'; cases hc')]
  simp [execOp, hop, hl, hc, hrun, Result.andThen]
  refine hK' _ _ (hK w' ?_ r2)
  unfold OwnI
  have hm : (madeCells (Value.int k 0).cells (n * 1)).toList = (List.replicate n (0 : Int)).map fun (n : Int) => Value.int k n := by
    rw [Nat.mul_one]; show (madeCells #[.int k 0] n).toList = _; rw [toList_madeCells_one]; simp
  rw [List.length_replicate, ← hm]
  exact r1
theorem appIIn (et : ElemTy P T E k bytes) {w : World} {ops : Array Oper} {rest : List Oper} {o : Oper} {ac : Act} {Q : Exit → Act → World → Prop} (hgd : o.guard = none) (s x : Operand)
    (ho : o.op = .call { callee := .builtin .append, args := #[s, x], argTypes := #[T, T] }) {base : Nat} {a : Option Addr} {cap m c : Nat} {l ys : List Int}
    (hs : ac.eval s = .slice a l.length cap) (hown : OwnI E k w base a cap l) {b : Option Addr} (hm : m = ys.length) (hx : ac.eval x = .slice b m c) (hy : RowI k w b c ys)
    (hb0 : 0 < ys.length) (hn : l.length + m ≤ 9223372036854775807) (hbytes : (l.length + m) * bytes ≤ 140737488355328) (hbase : base ≤ w.heap.size)
    (h : ∀ a' cap' w', OwnI E k w' base a' cap' (l ++ ys) → w.grownBy w' (Value.slice a l.length cap).ownBlock → Below base w w' → wpListIn F dep P ops Q rest (ac.put o.dst (.slice a' (l.length + m) cap')) w') :
    wpListIn F dep P ops Q (o :: rest) ac w := by
  subst hm
  obtain ⟨i, h2, h3, h4, h5⟩ := info_parts et.info
  obtain ⟨bb, off, rfl, _⟩ := hy.at hb0
  refine wpListIn_plain (by assumption) fun K hK' => ?_
  obtain ⟨v', w', hr, h6, h7, h8⟩ := run_append_own (P := P) w base T o.type E i (.int k 0) 1 bytes et.und h2 h3 h4 h5 rfl (by decide) _ l.length _ hown ⟨bb, off, none⟩ ys.length c (ys.map fun (n : Int) => Value.int k n) (by simp)
    (cells_of_rowI hy _ rfl) (by intro u hu; simp only [List.mem_map] at hu; obtain ⟨n, _, rfl⟩ := hu; rfl) (by simpa [maxLen] using hn) hbytes hbase
  have hv : ∃ a' cap', v' = .slice a' (l.length + ys.length) cap' := by
    rcases h6.2 with ⟨h9, h10⟩ | ⟨g, c', cur, h9, _⟩
    · exact ⟨none, 0, by rw [h9, h10]⟩
    · exact ⟨_, _, h9⟩
  obtain ⟨a', cap', rfl⟩ := hv
  have hown' : OwnI E k w' base a' cap' (l ++ ys) := by
    unfold OwnI; rw [List.length_append, List.map_append]; exact h6
  have hbel : Below base w w' := Below.of_grown h7 hbase (by
    intro g hg
    exact (World.ownsRow.lt hown g hg).1)
  unfold Oper.wpIn
  refine ⟨by simp [Oper.about, ho, resolve, Target.leads, Sem.run_pure], ?_⟩
  rw [Oper.semAt_plain F _ _ (by rw [ho]; intro c hc'; cases hc')]
  simp [execOp, ho, resolve, invoke, builtin, hs, hx, hr, Result.andThen]
  exact hK' _ _ (h a' cap' w' hown' h7 hbel)
/-- any slice of numbers behind an owned one, empty or nil too -/
theorem appAnyIIn (et : ElemTy P T E k bytes) {w : World} {ops : Array Oper} {rest : List Oper} {o : Oper} {ac : Act} {Q : Exit → Act → World → Prop} (hgd : o.guard = none) (s x : Operand)
    (ho : o.op = .call { callee := .builtin .append, args := #[s, x], argTypes := #[T, T] }) {base : Nat} {a : Option Addr} {cap m c : Nat} {l ys : List Int}
    (hs : ac.eval s = .slice a l.length cap) (hown : OwnI E k w base a cap l) {b : Option Addr} (hm : m = ys.length) (hx : ac.eval x = .slice b m c) (hy : RowI k w b c ys)
    (hn : l.length + m ≤ 9223372036854775807) (hbytes : (l.length + m) * bytes ≤ 140737488355328) (hbase : base ≤ w.heap.size)
    (h : ∀ a' cap' w', OwnI E k w' base a' cap' (l ++ ys) → w.grownBy w' (Value.slice a l.length cap).ownBlock → Below base w w' → wpListIn F dep P ops Q rest (ac.put o.dst (.slice a' (l.length + m) cap')) w') :
    wpListIn F dep P ops Q (o :: rest) ac w := by
  by_cases hy0 : 0 < ys.length
  · exact appIIn et hgd s x ho hs hown hm hx hy hy0 hn hbytes hbase h
  subst hm
  obtain rfl : ys = [] := List.eq_nil_of_length_eq_zero (by omega)
  obtain ⟨i, h2, h3, h4, h5⟩ := info_parts et.info
  have h' : ∀ a' cap' w', OwnI E k w' base a' cap' l → w.grownBy w' (Value.slice a l.length cap).ownBlock → Below base w w' → wpListIn F dep P ops Q rest (ac.put o.dst (.slice a' l.length cap')) w' := by
    intro a' cap' w' h6
    have := h a' cap' w' (by simpa using h6)
    simpa using this
  refine wpListIn_plain (by assumption) fun K hK' => ?_
  cases b with
  | none =>
    obtain rfl : c = 0 := hy.2.1.2 rfl
    have hr := run_append_owned_none (P := P) w base T o.type E i 1 et.und h2 _ l.length _ hown
    unfold Oper.wpIn
    refine ⟨by simp [Oper.about, ho, resolve, Target.leads, Sem.run_pure], ?_⟩
    rw [Oper.semAt_plain F _ _ (by rw [ho]; intro c hc'; cases hc')]
    simp [execOp, ho, resolve, invoke, builtin, hs, hx, hr, Result.andThen]
    exact hK' _ _ (h' a cap w hown (World.grownBy.refl _ _) (Below.refl _ _))
  | some ad =>
    obtain ⟨v', w', hr, h6, h7, h8⟩ := run_append_own (P := P) w base T o.type E i (.int k 0) 1 bytes et.und h2 h3 h4 h5 rfl (by decide) _ l.length _ hown ad 0 c [] (by simp)
      (by simp) (by simp) (by simpa [maxLen] using hn) (by simpa using hbytes) hbase
    have hv : ∃ a' cap', v' = .slice a' l.length cap' := by
      rcases h6.2 with ⟨h9, h10⟩ | ⟨g, c', cur, h9, _⟩
      · exact ⟨none, 0, by rw [h9]; simp at h10; rw [h10]; rfl⟩
      · exact ⟨_, _, h9⟩
    obtain ⟨a', cap', rfl⟩ := hv
    have hown' : OwnI E k w' base a' cap' l := by
      unfold OwnI; simpa using h6
    have hbel : Below base w w' := Below.of_grown h7 hbase (by
      intro g hg
      exact (World.ownsRow.lt hown g hg).1)
    unfold Oper.wpIn
    refine ⟨by simp [Oper.about, ho, resolve, Target.leads, Sem.run_pure], ?_⟩
    rw [Oper.semAt_plain F _ _ (by rw [ho]; intro c hc'; cases hc')]
    simp only [List.length_nil] at hx
    simp [execOp, ho, resolve, invoke, builtin, hs, hx, hr, Result.andThen]
    exact hK' _ _ (h' a' cap' w' hown' h7 hbel)
/-- one element, that lies in the block that was just made -/
theorem app1IIn (et : ElemTy P T E k bytes) {w : World} {ops : Array Oper} {rest : List Oper} {o : Oper} {ac : Act} {Q : Exit → Act → World → Prop} (hgd : o.guard = none) (s x : Operand)
    (ho : o.op = .call { callee := .builtin .append, args := #[s, x], argTypes := #[T, T] }) {base : Nat} {a : Option Addr} {cap : Nat} {l : List Int} {y : Int} {c E' : Nat}
    (hs : ac.eval s = .slice a l.length cap) (hown : OwnI E k w base a cap l) (hx : ac.eval x = .slice (some ⟨w.heap.size, 0, none⟩) 1 c) (hc : 1 ≤ c) (hc' : c ≤ 9223372036854775807)
    (hn : l.length + 1 ≤ 9223372036854775807) (hbytes : (l.length + 1) * bytes ≤ 140737488355328) (hbase : base ≤ w.heap.size)
    (h : ∀ a' cap' w', OwnI E k w' base a' cap' (l ++ [y]) → w.grownBy w' (Value.slice a l.length cap).ownBlock → Below base w w' → wpListIn F dep P ops Q rest (ac.put o.dst (.slice a' (l.length + 1) cap')) w') :
    wpListIn F dep P ops Q (o :: rest) ac (w.alloc (.cells #[.int k y] E')) := by
  refine appIIn et hgd s x ho hs (hown.alloc _) (ys := [y]) rfl hx ?_ (by simp) hn hbytes (by simp; omega) ?_
  · refine ⟨by simpa using hc, ⟨hc', fun hn => by cases hn⟩, .inr ⟨w.heap.size, 0, rfl, by simp, fun i hi => ?_⟩⟩
    obtain rfl : i = 0 := by simp at hi; omega
    simp [World.cell?_alloc_at]
  · intro a' cap' w' h1 h2 h3
    refine h a' cap' w' h1 ⟨h2.os, h2.tape, h2.output, Nat.le_trans (by simp) h2.size, fun q hq hr => (h2.block q (by simp; omega) hr).trans (Below.heap_alloc _ _ _ hq)⟩ (((Below.refl base w).alloc hbase _).trans h3)
end

/-! ### strings of bytes -/
def strOf (l : List Nat) : ByteArray := (l.map fun (n : Nat) => (n : Int)).foldl (fun r n => r.push (UInt8.ofNat n.toNat)) ByteArray.empty
theorem conv_row {P : Program} {src dst e : TypeId} {w : World} {a : Option Addr} {cap n : Nat} {l : List Nat} (hs : P.underlying src = some (.slice e)) (he : P.underlying e = some (.int .u8)) (hd : P.underlying dst = some .string) (hn : n = l.length) (h : RowN .u8 w a cap l) :
    (convert src dst (.slice a n cap)).run P w = .ok (.string (strOf l)) w := by
  subst hn
  rw [run_convert_bytes_string w src dst e a _ _ hs he hd]
  cases a with
  | none =>
    obtain ⟨h1, h2, rfl | ⟨b, off, h3, _⟩⟩ := h
    · rfl
    · cases h3
  | some ad =>
    refine run_bytesToString w ad _ _ _ ?_
    have hr := run_loadCells_list (P := P) (w := w) ad (l.map fun (n : Nat) => Value.int .u8 n) (cells_of_rowN h ad rfl)
    simp only [List.length_map] at hr
    rw [hr]
    simp [Function.comp_def]
end Go.Proofs.Ytmgoeokdlklabaa
