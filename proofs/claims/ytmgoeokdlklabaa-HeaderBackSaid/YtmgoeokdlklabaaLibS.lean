/- Owned slices of elements of several cells (structs), as lists: what a call makes itself; laws for append, load. -/
import Derived.Test.YtmgoeokdlklabaaLib
namespace Go.Proofs.Ytmgoeokdlklabaa
open Go.RowKit
set_option linter.unusedVariables false

/-- How an element lies in cells. -/
structure Enc (α : Type) where
  sz : Nat
  cells : α → List Value
  len : ∀ x, (cells x).length = sz
  one : ∀ x, ∀ u ∈ cells x, u.oneCell' = true
  pos : 0 < sz
/-- A slice type of such elements, as the program's tables have it. -/
structure ElemS (P : Program) (T E : TypeId) {α : Type} (c : Enc α) (z : Value) (bytes : Nat) : Prop where
  und : P.underlying T = some (.slice E)
  info : (P.info? E).map (fun i => (i.zero, i.size, i.bytes)) = some (some z, c.sz, bytes)
  zs : z.cells.size = c.sz
def flat {α : Type} (c : Enc α) (l : List α) : List Value := l.flatMap c.cells
section
variable {α : Type} {c : Enc α}
theorem flat_length (l : List α) : (flat c l).length = l.length * c.sz := by
  induction l with
  | nil => simp [flat]
  | cons a l ih => simp only [flat, List.flatMap_cons, List.length_append, List.length_cons, c.len] at *; rw [ih, Nat.add_mul, Nat.one_mul, Nat.add_comm]
theorem flat_append (l m : List α) : flat c (l ++ m) = flat c l ++ flat c m := by simp [flat]
theorem flat_one (l : List α) : ∀ u ∈ flat c l, u.oneCell' = true := by
  intro u hu
  simp only [flat, List.mem_flatMap] at hu
  obtain ⟨x, _, hx⟩ := hu
  exact c.one x u hx
theorem flat_at (l : List α) (i j : Nat) (hi : i < l.length) (hj : j < c.sz) : (flat c l)[i * c.sz + j]? = (c.cells l[i])[j]? := by
  induction l generalizing i with
  | nil => simp at hi
  | cons a l ih =>
    simp only [flat, List.flatMap_cons] at *
    cases i with
    | zero => simp only [Nat.zero_mul, Nat.zero_add, List.getElem_cons_zero]; rw [List.getElem?_append_left (by rw [c.len]; exact hj)]
    | succ i =>
      simp only [List.length_cons] at hi
      rw [List.getElem?_append_right (by rw [c.len, Nat.add_mul]; omega), c.len]
      have : (i + 1) * c.sz + j - c.sz = i * c.sz + j := by rw [Nat.add_mul]; omega
      rw [this, ih i (by omega)]
      simp
end
/-- A slice of such elements that reads as a list. -/
def RowS {α : Type} (c : Enc α) (w : World) (a : Option Addr) (cap : Nat) (l : List α) : Prop :=
  l.length ≤ cap ∧ (cap ≤ 9223372036854775807 ∧ (a = none → cap = 0)) ∧ (l = [] ∨ ∃ b off, a = some ⟨b, off, none⟩ ∧ b < w.heap.size ∧ ∀ i v, (flat c l)[i]? = some v → w.cell? ⟨b, off + i, none⟩ = some v)
section
variable {α : Type} {c : Enc α} {w w' : World} {a : Option Addr} {cap : Nat} {l : List α}
theorem RowS.len (h : RowS c w a cap l) : l.length ≤ 9223372036854775807 := by have := h.1; have := h.2.1.1; omega
theorem RowS.at (h : RowS c w a cap l) {i : Nat} (hi : i < l.length) :
    ∃ b off, a = some ⟨b, off, none⟩ ∧ b < w.heap.size ∧ ∀ j v, (c.cells l[i])[j]? = some v → w.cell? ⟨b, off + (i * c.sz + j), none⟩ = some v := by
  obtain ⟨_, _, rfl | ⟨b, off, rfl, hb, hc⟩⟩ := h
  · simp at hi
  · refine ⟨b, off, rfl, hb, fun j v hv => hc _ v ?_⟩
    have hj : j < c.sz := by have := (List.getElem?_eq_some_iff.1 hv).1; rw [c.len] at this; exact this
    rw [flat_at l i j hi hj]; exact hv
theorem RowS.same (h : RowS c w a cap l) (hs : w.heap.size ≤ w'.heap.size) (hb : ∀ x, 0 < l.length → a = some x → w'.heap[x.block]? = w.heap[x.block]?) : RowS c w' a cap l := by
  obtain ⟨h1, h2, h3⟩ := h
  refine ⟨h1, h2, ?_⟩
  rcases h3 with h3 | ⟨b, off, rfl, hb', hc⟩
  · exact .inl h3
  · by_cases h0 : l = []
    · exact .inl h0
    · exact .inr ⟨b, off, rfl, by omega, fun i v hv => (World.cell?_of_block (a := ⟨b, off + i, none⟩) (hb ⟨b, off, none⟩ (List.length_pos_iff.2 h0) rfl)).trans (hc i v hv)⟩
theorem RowS.below (h : RowS c w a cap l) (hb : Below w.heap.size w w') : RowS c w' a cap l := by
  obtain ⟨h1, h2, h3⟩ := h
  refine ⟨h1, h2, ?_⟩
  rcases h3 with h3 | ⟨b, off, ha, hb', hc⟩
  · exact .inl h3
  · exact .inr ⟨b, off, ha, Nat.lt_of_lt_of_le hb' hb.size, fun i v hv => (hb.cell (p := ⟨b, off + i, none⟩) hb').trans (hc i v hv)⟩
theorem RowS.drewN (h : RowS c w a cap l) (n : Nat) : RowS c (w.drewN n) a cap l := h
theorem RowS.nil (c : Enc α) (w : World) : RowS c w none 0 [] := ⟨by simp, by simp, .inl rfl⟩
theorem RowS.lit (c : Enc α) (w : World) (l : List α) (E : TypeId) (cs : Array Value) (B : Nat) (hB : B = w.heap.size) (hc : cs = (flat c l).toArray) (hl : l.length ≤ 9223372036854775807) :
    RowS c (w.alloc (.cells cs E)) (some ⟨B, 0, none⟩) l.length l := by
  subst hc hB
  refine ⟨Nat.le_refl _, ⟨hl, fun hn => by cases hn⟩, .inr ⟨w.heap.size, 0, rfl, by simp, fun i v hv => ?_⟩⟩
  rw [Nat.zero_add, World.cell?_alloc_at _ _ _ _ rfl]
  simpa using hv
end
def OwnS {α : Type} (c : Enc α) (E : TypeId) (w : World) (base : Nat) (a : Option Addr) (cap : Nat) (l : List α) : Prop :=
  w.ownsRow base E c.sz (.slice a l.length cap) l.length (flat c l)
section
variable {α : Type} {c : Enc α} {E : TypeId} {w w' : World} {base cap : Nat} {a : Option Addr} {l : List α}
theorem OwnS.nil (c : Enc α) (E : TypeId) (w : World) (base : Nat) : OwnS c E w base none 0 [] := World.ownsRow_nil w base E c.sz
theorem OwnS.lit0 (c : Enc α) (E : TypeId) (w : World) (base : Nat) (hb : base ≤ w.heap.size) : OwnS c E (w.alloc (.cells #[] E)) base (some ⟨w.heap.size, 0, none⟩) 0 [] :=
  World.ownsRow_made w #[] 0 hb (by decide) (by simp)
theorem OwnS.form (h : OwnS c E w base a cap l) : (a = none ∧ cap = 0 ∧ l = []) ∨ ∃ g, a = some ⟨g, 0, none⟩ ∧ base ≤ g ∧ g < w.heap.size := by
  rcases h.2 with ⟨h1, h2⟩ | ⟨g, cc, cur, h1, h2, h3, _⟩
  · simp only [Value.slice.injEq] at h1
    exact .inl ⟨h1.1, h1.2.2, List.eq_nil_of_length_eq_zero h2⟩
  · simp only [Value.slice.injEq] at h1
    exact .inr ⟨g, h1.1, h2, (Array.getElem?_eq_some_iff.1 h3).1⟩
theorem OwnS.caps (h : OwnS c E w base a cap l) : l.length ≤ cap ∧ cap ≤ 9223372036854775807 := by
  rcases h.2 with ⟨h1, h2⟩ | ⟨g, cc, cur, h1, h2, h3, h4, h5, _⟩
  · simp only [Value.slice.injEq] at h1
    omega
  · simp only [Value.slice.injEq] at h1
    obtain ⟨_, _, rfl⟩ := h1
    exact ⟨h4, by simpa [maxLen] using h5⟩
theorem OwnS.row (h : OwnS c E w base a cap l) : RowS c w a cap l := by
  refine ⟨h.caps.1, ⟨h.caps.2, fun hn => by rcases h.form with ⟨_, h1, _⟩ | ⟨g, h1, _⟩ <;> simp_all⟩, ?_⟩
  rcases h.form with ⟨_, _, rfl⟩ | ⟨g, rfl, hb, hg⟩
  · exact .inl rfl
  · refine .inr ⟨g, 0, rfl, hg, fun i v hv => ?_⟩
    have hi : i < l.length * c.sz := by have := (List.getElem?_eq_some_iff.1 hv).1; rwa [flat_length] at this
    rw [Nat.zero_add, World.ownsRow.cellAt h i hi]; exact hv
theorem OwnS.kept {row : Option Nat} (h : OwnS c E w base a cap l) (hg : w.grownBy w' row) (hr : ∀ g, a = some ⟨g, 0, none⟩ → row ≠ some g) : OwnS c E w' base a cap l := by
  refine World.ownsRow.kept h hg ?_
  rcases h.form with ⟨rfl, _, _⟩ | ⟨g, rfl, hb, hgg⟩
  · exact .inl rfl
  · exact .inr fun e => hr g rfl e.symm
theorem OwnS.below (h : OwnS c E w base a cap l) (hb : Below w.heap.size w w') : OwnS c E w' base a cap l :=
  h.kept (row := none) ⟨hb.os, hb.tape, hb.output, hb.size, fun k hk _ => hb.block k hk⟩ (fun _ _ e => by cases e)
theorem OwnS.alloc (h : OwnS c E w base a cap l) (o : Obj) : OwnS c E (w.alloc o) base a cap l := World.ownsRow.alloc h o
theorem OwnS.other (h : OwnS c E w base a cap l) {p : Addr} (hp : ∀ g, a = some ⟨g, 0, none⟩ → p.block ≠ g) (u : Value) : OwnS c E (w.setCell p u) base a cap l := by
  refine ownsRow_setCell_other h ?_ u
  rcases h.form with ⟨rfl, _, _⟩ | ⟨g, rfl, hb, hgg⟩
  · simp [Value.ownBlock]
  · simp only [Value.ownBlock, ne_eq, Option.some.injEq]
    exact fun e => hp g rfl e.symm
theorem OwnS.mono (h : OwnS c E w base a cap l) {b : Nat} (hb : b ≤ base) : OwnS c E w b a cap l := by
  refine ⟨h.1, ?_⟩
  rcases h.2 with h2 | ⟨g, cc, cur, h1, h2, h3⟩
  · exact .inl h2
  · exact .inr ⟨g, cc, cur, h1, by omega, h3⟩
end
section
variable {P : Program} {T E : TypeId} {α : Type} {cc : Enc α} {z : Value} {bytes : Nat}
theorem appAnyS (et : ElemS P T E cc z bytes) {w : World} {ops : Array Oper} {rest : List Oper} {o : Oper} {ac : Act} {Q : Exit → Act → World → Prop} (hgd : o.guard = none) (s x : Operand)
    (ho : o.op = .call { callee := .builtin .append, args := #[s, x], argTypes := #[T, T] }) {base : Nat} {a : Option Addr} {cap m c : Nat} {l ys : List α}
    (hs : ac.eval s = .slice a l.length cap) (hown : OwnS cc E w base a cap l) {b : Option Addr} (hm : m = ys.length) (hx : ac.eval x = .slice b m c) (hy : RowS cc w b c ys)
    (hn : l.length + m ≤ 9223372036854775807) (hbytes : (l.length + m) * bytes ≤ 140737488355328) (hbase : base ≤ w.heap.size)
    (h : ∀ a' cap' w', OwnS cc E w' base a' cap' (l ++ ys) → w.grownBy w' (Value.slice a l.length cap).ownBlock → Below base w w' → wpList P ops Q rest (ac.put o.dst (.slice a' (l.length + m) cap')) w') :
    wpList P ops Q (o :: rest) ac w := by
  subst hm
  obtain ⟨i, h2, h3, h4, h5⟩ := info_parts et.info
  refine wpList_plain (by assumption) fun K hK' => ?_
  by_cases hb : b = none
  · subst hb
    obtain rfl : c = 0 := hy.2.1.2 rfl
    obtain rfl : ys = [] := List.eq_nil_of_length_eq_zero (by have := hy.1; omega)
    have hr := run_append_owned_none (P := P) w base T o.type E i cc.sz et.und h2 _ l.length _ hown
    unfold Oper.wp
    simp [execOp, ho, resolve, invoke, builtin, hs, hx, hr, Result.andThen]
    exact hK' _ _ (by simpa using h a cap w (by simpa using hown) (World.grownBy.refl _ _) (Below.refl _ _))
  · obtain ⟨ad, rfl⟩ := Option.ne_none_iff_exists'.1 hb
    have hcl : ∀ j u, (flat cc ys)[j]? = some u → w.cell? (ad.add j) = some u := by
      intro j u hu
      obtain ⟨_, _, rfl | ⟨b', off, he, _, hc⟩⟩ := hy
      · simp [flat] at hu
      · cases he
        have := hc j u hu
        unfold Addr.add
        split
        · simp_all
        · exact this
    obtain ⟨v', w', hr, h6, h7, h8⟩ := run_append_own (P := P) w base T o.type E i z cc.sz bytes et.und h2 h3 h4 h5 et.zs cc.pos _ l.length _ hown ad ys.length c (flat cc ys) (flat_length _)
      hcl (flat_one _) (by simpa [maxLen] using hn) hbytes hbase
    have hv : ∃ a' cap', v' = .slice a' (l.length + ys.length) cap' := by
      rcases h6.2 with ⟨h9, h10⟩ | ⟨g, c', cur, h9, _⟩
      · exact ⟨none, 0, by rw [h9, h10]⟩
      · exact ⟨_, _, h9⟩
    obtain ⟨a', cap', rfl⟩ := hv
    have hown' : OwnS cc E w' base a' cap' (l ++ ys) := by
      unfold OwnS; rw [List.length_append, flat_append]; exact h6
    have hbel : Below base w w' := Below.of_grown h7 hbase (by
      intro g hg
      exact (World.ownsRow.lt hown g hg).1)
    unfold Oper.wp
    simp [execOp, ho, resolve, invoke, builtin, hs, hx, hr, Result.andThen]
    exact hK' _ _ (h a' cap' w' hown' h7 hbel)
theorem app1S (et : ElemS P T E cc z bytes) {w : World} {ops : Array Oper} {rest : List Oper} {o : Oper} {ac : Act} {Q : Exit → Act → World → Prop} (hgd : o.guard = none) (s x : Operand)
    (ho : o.op = .call { callee := .builtin .append, args := #[s, x], argTypes := #[T, T] }) {base : Nat} {a : Option Addr} {cap : Nat} {l : List α} (y : α) {cs : Array Value} {c E' : Nat}
    (hs : ac.eval s = .slice a l.length cap) (hown : OwnS cc E w base a cap l) (hx : ac.eval x = .slice (some ⟨w.heap.size, 0, none⟩) 1 c) (hcs : cs = (cc.cells y).toArray) (hc : 1 ≤ c) (hc' : c ≤ 9223372036854775807)
    (hn : l.length + 1 ≤ 9223372036854775807) (hbytes : (l.length + 1) * bytes ≤ 140737488355328) (hbase : base ≤ w.heap.size)
    (h : ∀ a' cap' w', OwnS cc E w' base a' cap' (l ++ [y]) → w.grownBy w' (Value.slice a l.length cap).ownBlock → Below base w w' → wpList P ops Q rest (ac.put o.dst (.slice a' (l.length + 1) cap')) w') :
    wpList P ops Q (o :: rest) ac (w.alloc (.cells cs E')) := by
  refine appAnyS et hgd s x ho hs (hown.alloc _) (ys := [y]) rfl hx ?_ hn hbytes (by simp; omega) ?_
  · subst hcs
    have := RowS.lit cc w [y] E' ((cc.cells y).toArray) w.heap.size rfl (by simp [flat]) (by simp)
    exact ⟨by simpa using hc, ⟨hc', fun hn => by cases hn⟩, this.2.2⟩
  · intro a' cap' w' h1 h2 h3
    refine h a' cap' w' h1 ⟨h2.os, h2.tape, h2.output, Nat.le_trans (by simp) h2.size, fun q hq hr => (h2.block q (by simp; omega) hr).trans (Below.heap_alloc _ _ _ hq)⟩ (((Below.refl base w).alloc hbase _).trans h3)
end
end Go.Proofs.Ytmgoeokdlklabaa
