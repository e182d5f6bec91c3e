/- Plain mathematics of layer 17: bits of symbols, one by one and by how often they come. Owned slices of elements of several cells (structs), as lists: what a call makes itself; laws for append, load. Contracts of the reference of layer 8. Plain mathematics of layer 4: the weight of a code, and its words. Contracts of package kraft and of its reference: may, weight, Classify, Single. Elements of rows; what Words answers. -/
import Derived.Test.YtendielanacflaaGreatL02
import Derived.Test.YtendielanacflaaGreatL01
import Derived.Test.YtendielanacflaaGreatL03
import Derived.Deep.RegionHeld3
import Derived.Lib.Hide
import Derived.Test.YtendielanacflaaGreatChecked
import Derived.BigQuiet
import Derived.Deep.QuietTactic
namespace Go.Proofs.YtendielanacflaaGreat.M17
open M08
set_option linter.unusedVariables false
structure Tok where
  len : Int
  dist : Int
  byte : Nat
def tokOk (t : Tok) : Prop := if t.len = 0 then t.dist = 0 else t.byte = 0 ∧ 3 ≤ t.len ∧ t.len ≤ 258 ∧ 1 ≤ t.dist ∧ t.dist ≤ 32768
instance (t : Tok) : Decidable (tokOk t) := by unfold tokOk; split <;> infer_instance
structure URow where
  far : Bool
  sym : Nat
  bits : Nat
  err : Nat
deriving DecidableEq
def tokU (t : Tok) : List URow :=
  if t.len = 0 then [⟨false, t.byte, 0, if t.dist = 0 then 0 else 5⟩]
  else if tokOk t then [⟨false, 257 + lk t.len.toNat, lbits (257 + lk t.len.toNat), 0⟩, ⟨true, dk t.dist.toNat, dbits (dk t.dist.toNat), 0⟩]
  else [⟨false, if 3 ≤ t.len ∧ t.len ≤ 258 then 257 + lk t.len.toNat else 0, if 3 ≤ t.len ∧ t.len ≤ 258 then lbits (257 + lk t.len.toNat) else 0, 5⟩]
def endU : URow := ⟨false, 256, 0, 0⟩
def useU : List Tok → List URow
  | [] => [endU]
  | t :: l => if tokOk t then tokU t ++ useU l else tokU t
theorem useU_ok (l : List Tok) (h : ∀ t ∈ l, tokOk t) : useU l = l.flatMap tokU ++ [endU] := by
  induction l with
  | nil => rfl
  | cons t l ih => simp only [useU, if_pos (h t (by simp)), List.flatMap_cons, List.append_assoc, ih fun t ht => h t (by simp [ht])]
def lensOf (f o : List Nat) (r : URow) : Nat := (if r.far then o else f).getD r.sym 0
def cnt (R : List URow) (far : Bool) (s : Nat) : Nat := R.countP fun r => r.far == far && r.sym == s
def cntL (R : List URow) (far : Bool) (n : Nat) : List Nat := (List.range n).map (cnt R far)
theorem cntL_length (R : List URow) (far : Bool) (n : Nat) : (cntL R far n).length = n := by simp [cntL]
theorem cntL_at (R : List URow) (far : Bool) (n i : Nat) (h : i < n) : (cntL R far n).getD i 0 = cnt R far i := by simp [cntL, h]
theorem cnt_le (R : List URow) (far : Bool) (s : Nat) : cnt R far s ≤ R.length := List.countP_le_length
theorem cnt_snoc (R : List URow) (r : URow) (far : Bool) (i : Nat) : cnt (R ++ [r]) far i = cnt R far i + if r.far = far ∧ r.sym = i then 1 else 0 := by
  unfold cnt
  rw [List.countP_append, List.countP_singleton]
  congr 1
  by_cases hc : r.far = far ∧ r.sym = i
  · rw [if_pos hc, if_pos (by simp [hc.1, hc.2])]
  · rw [if_neg hc, if_neg]
    intro h; rw [Bool.and_eq_true, beq_iff_eq, beq_iff_eq] at h; exact hc h
theorem cntL_get (R : List URow) (far : Bool) (n i : Nat) : (cntL R far n)[i]? = if i < n then some (cnt R far i) else none := by
  unfold cntL
  by_cases hi : i < n
  · simp [hi]
  · simp [hi]
theorem cntL_snoc (R : List URow) (r : URow) (far : Bool) (n : Nat) : cntL (R ++ [r]) far n = if r.far = far ∧ r.sym < n then (cntL R far n).set r.sym (cnt R far r.sym + 1) else cntL R far n := by
  apply List.ext_getElem?
  intro i
  by_cases hc : r.far = far ∧ r.sym < n
  · rw [if_pos hc, List.getElem?_set, cntL_get, cntL_get, cntL_length, cnt_snoc]
    by_cases he : r.sym = i
    · subst he; rw [if_pos rfl, if_pos hc.2, if_pos hc.2, if_pos ⟨hc.1, rfl⟩]
    · rw [if_neg he]; simp [he]
  · rw [if_neg hc, cntL_get, cntL_get, cnt_snoc]
    by_cases hi : i < n
    · rw [if_pos hi, if_pos hi, if_neg (fun h => hc ⟨h.1, by omega⟩)]; rfl
    · rw [if_neg hi, if_neg hi]
def S (f : Nat → Nat) : Nat → Nat
  | 0 => 0
  | n + 1 => S f n + f n
theorem S_congr {f g : Nat → Nat} {n : Nat} (h : ∀ i, i < n → f i = g i) : S f n = S g n := by
  induction n with
  | zero => rfl
  | succ n ih => simp only [S]; rw [ih fun i hi => h i (by omega), h n (by omega)]
theorem S_one (g : Nat → Nat) (s n : Nat) : S (fun i => if s = i then g i else 0) n = if s < n then g s else 0 := by
  induction n with
  | zero => simp [S]
  | succ n ih =>
    simp only [S, ih]
    by_cases h1 : s < n
    · simp [h1, show s < n + 1 by omega, show s ≠ n by omega]
    · by_cases h2 : s = n
      · subst h2; simp
      · simp [h1, h2, show ¬ s < n + 1 by omega]
def rowOk (r : URow) : Prop := r.err = 0 ∧ r.bits = (if r.far then dbits r.sym else lbits r.sym) ∧ r.sym < (if r.far then 30 else 286)
theorem byte_bits (b : Nat) (h : b ≤ 256) : lbits b = 0 := by unfold lbits; rw [if_pos (by omega)]
theorem tokU_ok (t : Tok) (h : tokOk t) (hb : t.byte < 256) : ∀ r ∈ tokU t, rowOk r := by
  intro r hr
  unfold tokU at hr
  by_cases h0 : t.len = 0
  · rw [if_pos h0] at hr
    have : t.dist = 0 := by unfold tokOk at h; rwa [if_pos h0] at h
    simp [this] at hr; subst hr
    exact ⟨rfl, by simp [byte_bits _ (Nat.le_of_lt hb)], by simp; omega⟩
  · rw [if_neg h0, if_pos h] at hr
    unfold tokOk at h
    rw [if_neg h0] at h
    have hl : lk t.len.toNat < 29 := lastLe_lt _ (by decide)
    have hd := dk_lt t.dist.toNat
    simp at hr
    rcases hr with rfl | rfl
    · exact ⟨rfl, rfl, by simp; omega⟩
    · exact ⟨rfl, rfl, by simpa using hd⟩
theorem useU_rows (l : List Tok) (h : ∀ t ∈ l, tokOk t) (hb : ∀ t ∈ l, t.byte < 256) : ∀ r ∈ useU l, rowOk r := by
  rw [useU_ok l h]
  intro r hr
  rcases List.mem_append.1 hr with hr | hr
  · obtain ⟨t, ht, hrt⟩ := List.mem_flatMap.1 hr
    exact tokU_ok t (h t ht) (hb t ht) r hrt
  · simp at hr; subst hr; exact ⟨rfl, by decide, by decide⟩
theorem cnt_pos {R : List URow} {r : URow} (h : r ∈ R) : cnt R r.far r.sym ≠ 0 := by
  unfold cnt
  rw [Nat.ne_zero_iff_zero_lt, List.countP_pos_iff]
  exact ⟨r, h, by simp⟩
theorem S_le (g : Nat → Nat) (k : Nat) (h : ∀ i, g i ≤ k) : ∀ n, S g n ≤ n * k := by
  intro n
  induction n with
  | zero => simp [S]
  | succ n ih => simp only [S]; have := h n; rw [Nat.add_mul]; omega
theorem useU_len (l : List Tok) : (useU l).length ≤ 2 * l.length + 1 := by
  have ht : ∀ t, (tokU t).length ≤ 2 := fun t => by unfold tokU; split; · simp
                                                    · split <;> simp
  induction l with
  | nil => simp [useU]
  | cons t l ih =>
    simp only [useU]
    have := ht t
    split
    · simp only [List.length_append, List.length_cons]; omega
    · simp only [List.length_cons]; omega
def oftR (l : List Tok) (k : Nat) : List URow := [endU] ++ (l.take k).flatMap tokU
theorem oftR_succ (l : List Tok) (k : Nat) (hk : k < l.length) : oftR l (k + 1) = oftR l k ++ tokU l[k] := by
  unfold oftR
  rw [List.take_succ_eq_append_getElem hk, List.flatMap_append, List.append_assoc]
  simp
theorem oftR_cnt (l : List Tok) (h : ∀ t ∈ l, tokOk t) (far : Bool) (n : Nat) : cntL (oftR l l.length) far n = cntL (useU l) far n := by
  unfold cntL
  apply List.map_congr_left
  intro i _
  unfold cnt oftR
  rw [useU_ok l h, List.take_length, List.countP_append, List.countP_append, Nat.add_comm]
theorem cntL_nil (far : Bool) (n : Nat) : cntL [] far n = List.replicate n 0 := by
  apply List.ext_getElem?
  intro i
  rw [cntL_get, List.getElem?_replicate]
  rfl
theorem oftR_zero (l : List Tok) : cntL (oftR l 0) false 286 = (List.replicate 286 0).set 256 1 ∧ cntL (oftR l 0) true 30 = List.replicate 30 0 := by
  have e : oftR l 0 = [] ++ [endU] := rfl
  rw [e, cntL_snoc, cntL_snoc, cntL_nil, cntL_nil, if_pos ⟨rfl, by decide⟩, if_neg (by intro h; cases h.1)]
  exact ⟨rfl, rfl⟩
theorem oftR_len (l : List Tok) (k : Nat) : (oftR l k).length ≤ 2 * l.length + 1 := by
  have ht : ∀ m : List Tok, (m.flatMap tokU).length ≤ 2 * m.length := by
    intro m
    induction m with
    | nil => simp
    | cons t m ih =>
      have : (tokU t).length ≤ 2 := by
        unfold tokU
        split
        · simp
        · split <;> simp
      simp only [List.flatMap_cons, List.length_append, List.length_cons]; omega
  unfold oftR
  have := ht (l.take k)
  simp only [List.length_append, List.length_cons, List.length_nil, List.length_take] at *
  omega
end Go.Proofs.YtendielanacflaaGreat.M17

namespace Go.Proofs.YtendielanacflaaGreat
open Go.RowKit
set_option linter.unusedVariables false
structure Enc (α : Type) where
  sz : Nat
  cells : α → List Value
  len : ∀ x, (cells x).length = sz
  one : ∀ x, ∀ u ∈ cells x, u.oneCell' = true
  pos : 0 < sz
structure ElemS (P : Program) (T E : TypeId) {α : Type} (c : Enc α) (z : Value) (bytes : Nat) : Prop where
  und : P.underlying T = some (.slice E)
  info : (P.info? E).map (fun i => (i.zero, i.size, i.bytes)) = some (some z, c.sz, bytes)
  zs : z.cells.size = c.sz
def flat {α : Type} (c : Enc α) (l : List α) : List Value := l.flatMap c.cells
section
variable {α : Type} {c : Enc α}
theorem flat_length (l : List α) : (flat c l).length = l.length * c.sz := by
  induction l with
  | nil => simp [flat]
  | cons a l ih => simp only [flat, List.flatMap_cons, List.length_append, List.length_cons, c.len] at *; rw [ih, Nat.add_mul, Nat.one_mul, Nat.add_comm]
theorem flat_append (l m : List α) : flat c (l ++ m) = flat c l ++ flat c m := by simp [flat]
theorem flat_one (l : List α) : ∀ u ∈ flat c l, u.oneCell' = true := by
  intro u hu
  simp only [flat, List.mem_flatMap] at hu
  obtain ⟨x, _, hx⟩ := hu
  exact c.one x u hx
theorem flat_at (l : List α) (i j : Nat) (hi : i < l.length) (hj : j < c.sz) : (flat c l)[i * c.sz + j]? = (c.cells l[i])[j]? := by
  induction l generalizing i with
  | nil => simp at hi
  | cons a l ih =>
    simp only [flat, List.flatMap_cons] at *
    cases i with
    | zero => simp only [Nat.zero_mul, Nat.zero_add, List.getElem_cons_zero]; rw [List.getElem?_append_left (by rw [c.len]; exact hj)]
    | succ i =>
      simp only [List.length_cons] at hi
      rw [List.getElem?_append_right (by rw [c.len, Nat.add_mul]; omega), c.len]
      have : (i + 1) * c.sz + j - c.sz = i * c.sz + j := by rw [Nat.add_mul]; omega
      rw [this, ih i (by omega)]
      simp
end
def RowS {α : Type} (c : Enc α) (w : World) (a : Option Addr) (cap : Nat) (l : List α) : Prop :=
  l.length ≤ cap ∧ (cap ≤ 9223372036854775807 ∧ (a = none → cap = 0)) ∧ (l = [] ∨ ∃ b off, a = some ⟨b, off, none⟩ ∧ b < w.heap.size ∧ ∀ i v, (flat c l)[i]? = some v → w.cell? ⟨b, off + i, none⟩ = some v)
section
variable {α : Type} {c : Enc α} {w w' : World} {a : Option Addr} {cap : Nat} {l : List α}
theorem RowS.len (h : RowS c w a cap l) : l.length ≤ 9223372036854775807 := by have := h.1; have := h.2.1.1; omega
theorem RowS.at (h : RowS c w a cap l) {i : Nat} (hi : i < l.length) :
    ∃ b off, a = some ⟨b, off, none⟩ ∧ b < w.heap.size ∧ ∀ j v, (c.cells l[i])[j]? = some v → w.cell? ⟨b, off + (i * c.sz + j), none⟩ = some v := by
  obtain ⟨_, _, rfl | ⟨b, off, rfl, hb, hc⟩⟩ := h
  · simp at hi
  · refine ⟨b, off, rfl, hb, fun j v hv => hc _ v ?_⟩
    have hj : j < c.sz := by have := (List.getElem?_eq_some_iff.1 hv).1; rw [c.len] at this; exact this
    rw [flat_at l i j hi hj]; exact hv
theorem RowS.same (h : RowS c w a cap l) (hs : w.heap.size ≤ w'.heap.size) (hb : ∀ x, 0 < l.length → a = some x → w'.heap[x.block]? = w.heap[x.block]?) : RowS c w' a cap l := by
  obtain ⟨h1, h2, h3⟩ := h
  refine ⟨h1, h2, ?_⟩
  rcases h3 with h3 | ⟨b, off, rfl, hb', hc⟩
  · exact .inl h3
  · by_cases h0 : l = []
    · exact .inl h0
    · exact .inr ⟨b, off, rfl, by omega, fun i v hv => (World.cell?_of_block (a := ⟨b, off + i, none⟩) (hb ⟨b, off, none⟩ (List.length_pos_iff.2 h0) rfl)).trans (hc i v hv)⟩
theorem RowS.below (h : RowS c w a cap l) (hb : Below w.heap.size w w') : RowS c w' a cap l := by
  obtain ⟨h1, h2, h3⟩ := h
  refine ⟨h1, h2, ?_⟩
  rcases h3 with h3 | ⟨b, off, ha, hb', hc⟩
  · exact .inl h3
  · exact .inr ⟨b, off, ha, Nat.lt_of_lt_of_le hb' hb.size, fun i v hv => (hb.cell (p := ⟨b, off + i, none⟩) hb').trans (hc i v hv)⟩
theorem RowS.drewN (h : RowS c w a cap l) (n : Nat) : RowS c (w.drewN n) a cap l := h
theorem RowS.nil (c : Enc α) (w : World) : RowS c w none 0 [] := ⟨by simp, by simp, .inl rfl⟩
theorem RowS.lit (c : Enc α) (w : World) (l : List α) (E : TypeId) (cs : Array Value) (B : Nat) (hB : B = w.heap.size) (hc : cs = (flat c l).toArray) (hl : l.length ≤ 9223372036854775807) :
    RowS c (w.alloc (.cells cs E)) (some ⟨B, 0, none⟩) l.length l := by
  subst hc hB
  refine ⟨Nat.le_refl _, ⟨hl, fun hn => by cases hn⟩, .inr ⟨w.heap.size, 0, rfl, by simp, fun i v hv => ?_⟩⟩
  rw [Nat.zero_add, World.cell?_alloc_at _ _ _ _ rfl]
  simpa using hv
end
def OwnS {α : Type} (c : Enc α) (E : TypeId) (w : World) (base : Nat) (a : Option Addr) (cap : Nat) (l : List α) : Prop :=
  w.ownsRow base E c.sz (.slice a l.length cap) l.length (flat c l)
section
variable {α : Type} {c : Enc α} {E : TypeId} {w w' : World} {base cap : Nat} {a : Option Addr} {l : List α}
theorem OwnS.nil (c : Enc α) (E : TypeId) (w : World) (base : Nat) : OwnS c E w base none 0 [] := World.ownsRow_nil w base E c.sz
theorem OwnS.lit0 (c : Enc α) (E : TypeId) (w : World) (base : Nat) (hb : base ≤ w.heap.size) : OwnS c E (w.alloc (.cells #[] E)) base (some ⟨w.heap.size, 0, none⟩) 0 [] :=
  World.ownsRow_made w #[] 0 hb (by decide) (by simp)
theorem OwnS.form (h : OwnS c E w base a cap l) : (a = none ∧ cap = 0 ∧ l = []) ∨ ∃ g, a = some ⟨g, 0, none⟩ ∧ base ≤ g ∧ g < w.heap.size := by
  rcases h.2 with ⟨h1, h2⟩ | ⟨g, cc, cur, h1, h2, h3, _⟩
  · simp only [Value.slice.injEq] at h1
    exact .inl ⟨h1.1, h1.2.2, List.eq_nil_of_length_eq_zero h2⟩
  · simp only [Value.slice.injEq] at h1
    exact .inr ⟨g, h1.1, h2, (Array.getElem?_eq_some_iff.1 h3).1⟩
theorem OwnS.caps (h : OwnS c E w base a cap l) : l.length ≤ cap ∧ cap ≤ 9223372036854775807 := by
  rcases h.2 with ⟨h1, h2⟩ | ⟨g, cc, cur, h1, h2, h3, h4, h5, _⟩
  · simp only [Value.slice.injEq] at h1
    omega
  · simp only [Value.slice.injEq] at h1
    obtain ⟨_, _, rfl⟩ := h1
    exact ⟨h4, by simpa [maxLen] using h5⟩
theorem OwnS.row (h : OwnS c E w base a cap l) : RowS c w a cap l := by
  refine ⟨h.caps.1, ⟨h.caps.2, fun hn => by rcases h.form with ⟨_, h1, _⟩ | ⟨g, h1, _⟩ <;> simp_all⟩, ?_⟩
  rcases h.form with ⟨_, _, rfl⟩ | ⟨g, rfl, hb, hg⟩
  · exact .inl rfl
  · refine .inr ⟨g, 0, rfl, hg, fun i v hv => ?_⟩
    have hi : i < l.length * c.sz := by have := (List.getElem?_eq_some_iff.1 hv).1; rwa [flat_length] at this
    rw [Nat.zero_add, World.ownsRow.cellAt h i hi]; exact hv
theorem OwnS.kept {row : Option Nat} (h : OwnS c E w base a cap l) (hg : w.grownBy w' row) (hr : ∀ g, a = some ⟨g, 0, none⟩ → row ≠ some g) : OwnS c E w' base a cap l := by
  refine World.ownsRow.kept h hg ?_
  rcases h.form with ⟨rfl, _, _⟩ | ⟨g, rfl, hb, hgg⟩
  · exact .inl rfl
  · exact .inr fun e => hr g rfl e.symm
theorem OwnS.below (h : OwnS c E w base a cap l) (hb : Below w.heap.size w w') : OwnS c E w' base a cap l :=
  h.kept (row := none) ⟨hb.os, hb.tape, hb.output, hb.size, fun k hk _ => hb.block k hk⟩ (fun _ _ e => by cases e)
theorem OwnS.alloc (h : OwnS c E w base a cap l) (o : Obj) : OwnS c E (w.alloc o) base a cap l := World.ownsRow.alloc h o
theorem OwnS.other (h : OwnS c E w base a cap l) {p : Addr} (hp : ∀ g, a = some ⟨g, 0, none⟩ → p.block ≠ g) (u : Value) : OwnS c E (w.setCell p u) base a cap l := by
  refine ownsRow_setCell_other h ?_ u
  rcases h.form with ⟨rfl, _, _⟩ | ⟨g, rfl, hb, hgg⟩
  · simp [Value.ownBlock]
  · simp only [Value.ownBlock, ne_eq, Option.some.injEq]
    exact fun e => hp g rfl e.symm
theorem OwnS.mono (h : OwnS c E w base a cap l) {b : Nat} (hb : b ≤ base) : OwnS c E w b a cap l := by
  refine ⟨h.1, ?_⟩
  rcases h.2 with h2 | ⟨g, cc, cur, h1, h2, h3⟩
  · exact .inl h2
  · exact .inr ⟨g, cc, cur, h1, by omega, h3⟩
end
section
variable {P : Program} {T E : TypeId} {α : Type} {cc : Enc α} {z : Value} {bytes : Nat}
theorem appAnyS (et : ElemS P T E cc z bytes) {w : World} {ops : Array Oper} {rest : List Oper} {o : Oper} {ac : Act} {Q : Exit → Act → World → Prop} (hgd : o.guard = none) (s x : Operand)
    (ho : o.op = .call { callee := .builtin .append, args := #[s, x], argTypes := #[T, T] }) {base : Nat} {a : Option Addr} {cap m c : Nat} {l ys : List α}
    (hs : ac.eval s = .slice a l.length cap) (hown : OwnS cc E w base a cap l) {b : Option Addr} (hm : m = ys.length) (hx : ac.eval x = .slice b m c) (hy : RowS cc w b c ys)
    (hn : l.length + m ≤ 9223372036854775807) (hbytes : (l.length + m) * bytes ≤ 140737488355328) (hbase : base ≤ w.heap.size)
    (h : ∀ a' cap' w', OwnS cc E w' base a' cap' (l ++ ys) → w.grownBy w' (Value.slice a l.length cap).ownBlock → Below base w w' → wpList P ops Q rest (ac.put o.dst (.slice a' (l.length + m) cap')) w') :
    wpList P ops Q (o :: rest) ac w := by
  subst hm
  obtain ⟨i, h2, h3, h4, h5⟩ := info_parts et.info
  refine wpList_plain (by assumption) fun K hK' => ?_
  by_cases hb : b = none
  · subst hb
    obtain rfl : c = 0 := hy.2.1.2 rfl
    obtain rfl : ys = [] := List.eq_nil_of_length_eq_zero (by have := hy.1; omega)
    have hr := run_append_owned_none (P := P) w base T o.type E i cc.sz et.und h2 _ l.length _ hown
    unfold Oper.wp
    simp [execOp, ho, resolve, invoke, builtin, hs, hx, hr, Result.andThen]
    exact hK' _ _ (by simpa using h a cap w (by simpa using hown) (World.grownBy.refl _ _) (Below.refl _ _))
  · obtain ⟨ad, rfl⟩ := Option.ne_none_iff_exists'.1 hb
    have hcl : ∀ j u, (flat cc ys)[j]? = some u → w.cell? (ad.add j) = some u := by
      intro j u hu
      obtain ⟨_, _, rfl | ⟨b', off, he, _, hc⟩⟩ := hy
      · simp [flat] at hu
      · cases he
        have := hc j u hu
        unfold Addr.add
        split
        · simp_all
        · exact this
    obtain ⟨v', w', hr, h6, h7, h8⟩ := run_append_own (P := P) w base T o.type E i z cc.sz bytes et.und h2 h3 h4 h5 et.zs cc.pos _ l.length _ hown ad ys.length c (flat cc ys) (flat_length _)
      hcl (flat_one _) (by simpa [maxLen] using hn) hbytes hbase
    have hv : ∃ a' cap', v' = .slice a' (l.length + ys.length) cap' := by
      rcases h6.2 with ⟨h9, h10⟩ | ⟨g, c', cur, h9, _⟩
      · exact ⟨none, 0, by rw [h9, h10]⟩
      · exact ⟨_, _, h9⟩
    obtain ⟨a', cap', rfl⟩ := hv
    have hown' : OwnS cc E w' base a' cap' (l ++ ys) := by
      unfold OwnS; rw [List.length_append, flat_append]; exact h6
    have hbel : Below base w w' := Below.of_grown h7 hbase (by
      intro g hg
      exact (World.ownsRow.lt hown g hg).1)
    unfold Oper.wp
    simp [execOp, ho, resolve, invoke, builtin, hs, hx, hr, Result.andThen]
    exact hK' _ _ (h a' cap' w' hown' h7 hbel)
theorem app1S (et : ElemS P T E cc z bytes) {w : World} {ops : Array Oper} {rest : List Oper} {o : Oper} {ac : Act} {Q : Exit → Act → World → Prop} (hgd : o.guard = none) (s x : Operand)
    (ho : o.op = .call { callee := .builtin .append, args := #[s, x], argTypes := #[T, T] }) {base : Nat} {a : Option Addr} {cap : Nat} {l : List α} (y : α) {cs : Array Value} {c E' : Nat}
    (hs : ac.eval s = .slice a l.length cap) (hown : OwnS cc E w base a cap l) (hx : ac.eval x = .slice (some ⟨w.heap.size, 0, none⟩) 1 c) (hcs : cs = (cc.cells y).toArray) (hc : 1 ≤ c) (hc' : c ≤ 9223372036854775807)
    (hn : l.length + 1 ≤ 9223372036854775807) (hbytes : (l.length + 1) * bytes ≤ 140737488355328) (hbase : base ≤ w.heap.size)
    (h : ∀ a' cap' w', OwnS cc E w' base a' cap' (l ++ [y]) → w.grownBy w' (Value.slice a l.length cap).ownBlock → Below base w w' → wpList P ops Q rest (ac.put o.dst (.slice a' (l.length + 1) cap')) w') :
    wpList P ops Q (o :: rest) ac (w.alloc (.cells cs E')) := by
  refine appAnyS et hgd s x ho hs (hown.alloc _) (ys := [y]) rfl hx ?_ hn hbytes (by simp; omega) ?_
  · subst hcs
    have := RowS.lit cc w [y] E' ((cc.cells y).toArray) w.heap.size rfl (by simp [flat]) (by simp)
    exact ⟨by simpa using hc, ⟨hc', fun hn => by cases hn⟩, this.2.2⟩
  · intro a' cap' w' h1 h2 h3
    refine h a' cap' w' h1 ⟨h2.os, h2.tape, h2.output, Nat.le_trans (by simp) h2.size, fun q hq hr => (h2.block q (by simp; omega) hr).trans (Below.heap_alloc _ _ _ hq)⟩ (((Below.refl base w).alloc hbase _).trans h3)
end
end Go.Proofs.YtendielanacflaaGreat

namespace Go.Proofs.YtendielanacflaaGreat
open Go.RowKit Go.Shelf M08 M17
set_option linter.unusedVariables false
def encT : Enc Tok where
  sz := 3
  cells t := [.int .i64 t.len, .int .i64 t.dist, .int .u8 (t.byte : Nat)]
  len _ := rfl
  one x u hu := by
    simp only [List.mem_cons, List.not_mem_nil, or_false] at hu
    rcases hu with rfl | rfl | rfl <;> rfl
  pos := by decide
def tokV (t : Tok) : Value := .agg #[.int .i64 t.len, .int .i64 t.dist, .int .u8 (t.byte : Nat)]
theorem evalC (a : Act) (v : Value) : a.eval (.const v) = v := rfl
theorem eqgA (t : TypeId) (x y : Operand) (u v : Value) (w : World) : (eqGuard .add t x y u v).run Tryz.prog w = .ok () w := by simp [eqGuard, go_sem]
theorem eqgS (t : TypeId) (x y : Operand) (u v : Value) (w : World) : (eqGuard .sub t x y u v).run Tryz.prog w = .ok () w := by simp [eqGuard, go_sem]
theorem addI (t : TypeId) (x y : Int) (w : World) : (binOp .add t (.int .i64 x) (.int .i64 y) : Sem Value).run Tryz.prog w = .ok (.int .i64 (IntKind.i64.wrap (x + y))) w := by
  simp [binOp, Op.intArith, go_sem]
theorem subI (t : TypeId) (x y : Int) (w : World) : (binOp .sub t (.int .i64 x) (.int .i64 y) : Sem Value).run Tryz.prog w = .ok (.int .i64 (IntKind.i64.wrap (x - y))) w := by
  simp [binOp, Op.intArith, go_sem]
theorem ixI (b k N c : Nat) (h : k < N) (w : World) : (Instr.indexAt 88 (.slice (some ⟨b, 0, none⟩) N c) (.int .i64 (k : Nat))).run Tryz.prog w = .ok (.pointer (some ⟨b, k, none⟩)) w := by
  have h1 : ¬ N ≤ k := by omega
  simp [Instr.indexAt, asIntOf, run_underlying Tryz.underlying88, h, go_sem]
theorem ldInt (p : Addr) (v : Value) (w : World) (h : w.cell? p = some v) : (Instr.loadAt 3 (.pointer (some p))).run Tryz.prog w = .ok v w := by
  simp [Instr.loadAt, Instr.sureAddr, loadVar, isAgg, run_underlying Tryz.underlying3, h, go_sem]
theorem cell_lt {w : World} {b o : Nat} {v : Value} (h : w.cell? ⟨b, o, none⟩ = some v) : b < w.heap.size := by
  rcases Nat.lt_or_ge b w.heap.size with h' | h'
  · exact h'
  · simp [World.cell?, Array.getElem?_eq_none h'] at h
end Go.Proofs.YtendielanacflaaGreat

namespace Go.Proofs.YtendielanacflaaGreat.M04
def wt (n : Nat) : Nat := if n = 0 then 0 else 2 ^ (20 - n)
def weight (l : List Nat) : Nat := (l.map wt).sum
theorem wt_le (n : Nat) : wt n ≤ 2 ^ 20 := by
  unfold wt; split
  · simp
  · exact Nat.pow_le_pow_right (by simp) (by omega)
theorem weight_le (l : List Nat) : weight l ≤ l.length * 2 ^ 20 := by
  induction l with
  | nil => simp [weight]
  | cons a l ih => have := wt_le a; simp only [weight, List.map_cons, List.sum_cons, List.length_cons] at *; omega
theorem take_snoc {α : Type} (l : List α) (k : Nat) (h : k < l.length) : l.take (k + 1) = l.take k ++ [l[k]] := List.take_succ_eq_append_getElem h
theorem weight_succ (l : List Nat) (k : Nat) (h : k < l.length) : weight (l.take (k + 1)) = weight (l.take k) + wt l[k] := by
  rw [take_snoc l k h]; simp only [weight, List.map_append, List.map_cons, List.map_nil, List.sum_append, List.sum_cons, List.sum_nil]; omega
theorem weight_take_le (l : List Nat) (k : Nat) (h : l.length ≤ 512) : weight (l.take k) ≤ 512 * 2 ^ 20 :=
  Nat.le_trans (weight_le _) (by simp; omega)
def May (l : List Nat) : Prop := (∀ x ∈ l, x ≤ 20) ∧ l.length ≤ 512
instance (l : List Nat) : Decidable (May l) := by unfold May; infer_instance
def top (l : List Nat) : Nat := l.foldl max 0
theorem top_snoc (l : List Nat) (k : Nat) (h : k < l.length) : top (l.take (k + 1)) = max (top (l.take k)) l[k] := by
  rw [take_snoc l k h]; simp only [top, List.foldl_append, List.foldl_cons, List.foldl_nil]
theorem foldl_max_le (l : List Nat) (a n : Nat) : l.foldl max a ≤ n ↔ a ≤ n ∧ ∀ x ∈ l, x ≤ n := by
  induction l generalizing a with
  | nil => simp
  | cons b l ih =>
    simp only [List.foldl_cons, ih, List.mem_cons, forall_eq_or_imp, ← and_assoc]
    refine and_congr_left fun _ => ?_
    omega
theorem top_le (l : List Nat) (n : Nat) : top l ≤ n ↔ ∀ x ∈ l, x ≤ n := by
  unfold top; rw [foldl_max_le]; simp
def mayB (l : List Nat) : Bool := decide (May l)
def cls (l : List Nat) : Nat := if weight l = 0 then 0 else if weight l < 2 ^ 20 then 1 else if weight l = 2 ^ 20 then 2 else 3
def clsE (l : List Nat) : Nat × Nat := if May l then (cls l, 0) else (0, 5)
def S (f : Nat → Nat) : Nat → Nat
  | 0 => 0
  | m + 1 => S f m + f m
theorem S_congr {f g : Nat → Nat} {m : Nat} (h : ∀ j, j < m → f j = g j) : S f m = S g m := by
  induction m with
  | zero => rfl
  | succ m ih => simp only [S]; rw [ih fun j hj => h j (by omega), h m (by omega)]
theorem S_le {f g : Nat → Nat} {m : Nat} (h : ∀ j, j < m → f j ≤ g j) : S f m ≤ S g m := by
  induction m with
  | zero => simp [S]
  | succ m ih => simp only [S]; have := ih fun j hj => h j (by omega); have := h m (by omega); omega
theorem S_zero {f : Nat → Nat} {m : Nat} (h : ∀ j, j < m → f j = 0) : S f m = 0 := by
  induction m with
  | zero => rfl
  | succ m ih => simp only [S]; rw [ih fun j hj => h j (by omega), h m (by omega)]
theorem S_one {f g : Nat → Nat} {m k : Nat} (hk : k < m) (h : ∀ j, j < m → j ≠ k → f j = g j) : S f m + g k = S g m + f k := by
  induction m with
  | zero => omega
  | succ m ih =>
    simp only [S]
    by_cases e : k = m
    · subst e
      rw [S_congr (fun j hj => h j (by omega) (by omega))]; omega
    · have := ih (by omega) (fun j hj hne => h j (by omega) hne)
      have := h m (by omega) (by omega)
      omega
theorem S_dvd {f : Nat → Nat} {m d : Nat} (h : ∀ j, j < m → d ∣ f j) : d ∣ S f m := by
  induction m with
  | zero => exact ⟨0, rfl⟩
  | succ m ih => exact Nat.dvd_add (ih fun j hj => h j (by omega)) (h m (by omega))
theorem S_cons (f : Nat → Nat) (m : Nat) : S f (m + 1) = f 0 + S (fun j => f (j + 1)) m := by
  induction m with
  | zero => simp [S]
  | succ m ih => rw [S, ih, S]; omega
theorem weight_S (l : List Nat) : weight l = S (fun j => wt (l.getD j 0)) l.length := by
  induction l with
  | nil => rfl
  | cons a l ih =>
    rw [List.length_cons, S_cons]
    simp only [weight, List.map_cons, List.sum_cons] at *
    rw [ih]; simp
def pre (l : List Nat) (n k j : Nat) : Prop := l.getD j 0 ≠ 0 ∧ (l.getD j 0 < n ∨ l.getD j 0 = n ∧ j < k)
instance (l : List Nat) (n k j : Nat) : Decidable (pre l n k j) := by unfold pre; infer_instance
def acc (l : List Nat) (n k : Nat) : Nat := S (fun j => if pre l n k j then wt (l.getD j 0) else 0) l.length
def word (l : List Nat) (i : Nat) : Nat := if l.getD i 0 = 0 then 0 else acc l (l.getD i 0) i / 2 ^ (20 - l.getD i 0)
def words (l : List Nat) : List Nat := (List.range l.length).map (word l)
def outs (l : List Nat) (n k : Nat) : List Nat := (List.range l.length).map fun i => if pre l n k i then word l i else 0
theorem words_length (l : List Nat) : (words l).length = l.length := by simp [words]
theorem acc_one (l : List Nat) : acc l 1 0 = 0 := S_zero fun j _ => by
  rw [if_neg]; unfold pre; omega
theorem acc_row (l : List Nat) (n : Nat) : acc l n l.length = acc l (n + 1) 0 := S_congr fun j hj => by
  have : pre l n l.length j ↔ pre l (n + 1) 0 j := by unfold pre; omega
  simp only [this]
theorem acc_le (l : List Nat) (n k : Nat) : acc l n k ≤ weight l := by
  rw [weight_S]
  exact S_le fun j _ => by split <;> omega
theorem acc_hit (l : List Nat) (n k : Nat) (hn : n ≠ 0) (hk : k < l.length) (h : l[k] = n) : acc l n (k + 1) = acc l n k + 2 ^ (20 - n) := by
  have hg : l.getD k 0 = n := by simp [hk, h]
  have := S_one (f := fun j => if pre l n (k + 1) j then wt (l.getD j 0) else 0) (g := fun j => if pre l n k j then wt (l.getD j 0) else 0) hk (fun j hj hne => by
    have : pre l n (k + 1) j ↔ pre l n k j := by unfold pre; omega
    simp only [this])
  rw [if_neg (by unfold pre; omega), if_pos (by unfold pre; omega), hg, wt, if_neg hn] at this
  unfold acc
  omega
theorem acc_miss (l : List Nat) (n k : Nat) (hk : k < l.length) (h : l[k] ≠ n) : acc l n (k + 1) = acc l n k := S_congr fun j hj => by
  have hg : l.getD k 0 = l[k] := by simp [hk]
  have : pre l n (k + 1) j ↔ pre l n k j := by
    unfold pre
    constructor
    · rintro ⟨h1, h2 | ⟨h2, h3⟩⟩
      · exact ⟨h1, .inl h2⟩
      · refine ⟨h1, .inr ⟨h2, ?_⟩⟩
        by_cases e : j = k
        · subst e; omega
        · omega
    · rintro ⟨h1, h2⟩; exact ⟨h1, by omega⟩
  simp only [this]
theorem acc_dvd (l : List Nat) (n k : Nat) : 2 ^ (20 - n) ∣ acc l n k := S_dvd fun j _ => by
  split
  · rename_i h
    have h0 : l.getD j 0 ≠ 0 := h.1
    have hle : l.getD j 0 ≤ n := by have := h.2; omega
    rw [wt, if_neg h0]
    exact Nat.pow_dvd_pow 2 (by omega)
  · exact Nat.dvd_zero _
theorem outs_one (l : List Nat) : outs l 1 0 = List.replicate l.length 0 := by
  apply List.ext_getElem (by simp [outs])
  intro i h1 h2
  simp only [outs, List.getElem_map, List.getElem_range, List.getElem_replicate]
  rw [if_neg]; unfold pre; omega
theorem outs_row (l : List Nat) (n : Nat) : outs l n l.length = outs l (n + 1) 0 := by
  apply List.ext_getElem (by simp [outs])
  intro i h1 h2
  simp only [outs, List.length_map, List.length_range] at h1
  simp only [outs, List.getElem_map, List.getElem_range]
  have : pre l n l.length i ↔ pre l (n + 1) 0 i := by unfold pre; omega
  simp only [this]
theorem outs_hit (l : List Nat) (n k : Nat) (hn : n ≠ 0) (hk : k < l.length) (h : l[k] = n) : outs l n (k + 1) = (outs l n k).set k (acc l n k / 2 ^ (20 - n)) := by
  have hg : l.getD k 0 = n := by simp [hk, h]
  apply List.ext_getElem (by simp [outs])
  intro i h1 h2
  simp only [outs, List.length_map, List.length_range] at h1
  rw [List.getElem_set]
  simp only [outs, List.getElem_map, List.getElem_range]
  by_cases e : k = i
  · subst e
    rw [if_pos (by unfold pre; omega), if_pos rfl, word, if_neg (by omega), hg]
  · rw [if_neg e]
    have : pre l n (k + 1) i ↔ pre l n k i := by unfold pre; omega
    simp only [this]
theorem outs_miss (l : List Nat) (n k : Nat) (hk : k < l.length) (h : l[k] ≠ n) : outs l n (k + 1) = outs l n k := by
  apply List.ext_getElem (by simp [outs])
  intro i h1 h2
  simp only [outs, List.getElem_map, List.getElem_range]
  have hg : l.getD k 0 = l[k] := by simp [hk]
  have : pre l n (k + 1) i ↔ pre l n k i := by
    unfold pre
    constructor
    · rintro ⟨h1, h2 | ⟨h2, h3⟩⟩
      · exact ⟨h1, .inl h2⟩
      · refine ⟨h1, .inr ⟨h2, ?_⟩⟩
        by_cases e : i = k
        · subst e; omega
        · omega
    · rintro ⟨h1, h2⟩; exact ⟨h1, by omega⟩
  simp only [this]
theorem getD_le {l : List Nat} {n : Nat} (h : ∀ x ∈ l, x ≤ n) (i : Nat) : l.getD i 0 ≤ n := by
  by_cases hi : i < l.length
  · simp only [List.getD_eq_getElem?_getD, List.getElem?_eq_getElem hi, Option.getD_some]; exact h _ (List.getElem_mem hi)
  · simp only [List.getD_eq_getElem?_getD, List.getElem?_eq_none (by omega : l.length ≤ i), Option.getD_none]; omega
theorem outs_end (l : List Nat) (h : ∀ x ∈ l, x ≤ 20) : outs l 21 0 = words l := by
  apply List.ext_getElem (by simp [outs, words])
  intro i h1 h2
  simp only [outs, words, List.getElem_map, List.getElem_range]
  have := getD_le h i
  by_cases e : l.getD i 0 = 0
  · rw [if_neg (by unfold pre; omega), word, if_pos e]
  · rw [if_pos (by unfold pre; omega)]
def wordsE (l : List Nat) : List Nat × Nat := if ¬ May l then ([], 5) else if 2 ^ 20 < weight l then ([], 2) else (words l, 0)
def rowOf (l : List Nat) (n k : Nat) : List (Nat × Nat) := (List.range k).filterMap fun i => if l.getD i 0 = n then some (i, n) else none
def ordB (l : List Nat) : Nat → Nat → List (Nat × Nat)
  | 0, k => rowOf l 0 k
  | n + 1, k => (if n = 0 then [] else ordB l n l.length) ++ rowOf l (n + 1) k
def ord (l : List Nat) : List (Nat × Nat) := ordB l 20 l.length
theorem rowOf_hit (l : List Nat) (n k : Nat) (h : l.getD k 0 = n) : rowOf l n (k + 1) = rowOf l n k ++ [(k, n)] := by
  simp only [rowOf, List.range_succ, List.filterMap_append, List.filterMap_cons, List.filterMap_nil, h, if_true]
theorem rowOf_miss (l : List Nat) (n k : Nat) (h : l.getD k 0 ≠ n) : rowOf l n (k + 1) = rowOf l n k := by
  simp only [rowOf, List.range_succ, List.filterMap_append, List.filterMap_cons, List.filterMap_nil, h, if_false, List.append_nil]
theorem ordB_hit (l : List Nat) (n k : Nat) (h : l.getD k 0 = n) : ordB l n (k + 1) = ordB l n k ++ [(k, n)] := by
  cases n with
  | zero => exact rowOf_hit l 0 k h
  | succ n => simp only [ordB]; rw [rowOf_hit l _ k h, List.append_assoc]
theorem ordB_miss (l : List Nat) (n k : Nat) (h : l.getD k 0 ≠ n) : ordB l n (k + 1) = ordB l n k := by
  cases n with
  | zero => exact rowOf_miss l 0 k h
  | succ n => simp only [ordB]; rw [rowOf_miss l _ k h]
theorem ordB_row (l : List Nat) (n : Nat) (hn : n ≠ 0) : ordB l (n + 1) 0 = ordB l n l.length := by
  simp [ordB, rowOf, hn]
theorem ordB_one (l : List Nat) : ordB l 1 0 = [] := by simp [ordB, rowOf]
theorem ordB_le (l : List Nat) (n k m : Nat) : ordB l n k <+: ordB l n (k + m) := by
  induction m with
  | zero => exact List.prefix_refl _
  | succ m ih =>
    by_cases h : l.getD (k + m) 0 = n
    · rw [← Nat.add_assoc, ordB_hit l n _ h]; exact ih.trans (List.prefix_append _ _)
    · rw [← Nat.add_assoc, ordB_miss l n _ h]; exact ih
theorem ordB_ord' (l : List Nat) (d n k : Nat) (hn : n + d = 20) (h0 : n ≠ 0) (hk : k ≤ l.length) : ordB l n k <+: ord l := by
  induction d generalizing n k with
  | zero =>
    obtain rfl : n = 20 := by omega
    have := ordB_le l 20 k (l.length - k)
    rwa [show k + (l.length - k) = l.length by omega] at this
  | succ d ih =>
    have h1 := ordB_le l n k (l.length - k)
    rw [show k + (l.length - k) = l.length by omega, ← ordB_row l n h0] at h1
    exact h1.trans (ih (n + 1) 0 (by omega) (by omega) (by omega))
theorem ordB_ord (l : List Nat) (n k : Nat) (hn : n ≤ 20) (h0 : n ≠ 0) (hk : k ≤ l.length) : ordB l n k <+: ord l := ordB_ord' l (20 - n) n k (by omega) h0 hk
theorem ord_at (l : List Nat) (n k : Nat) (hn : n ≤ 20) (h0 : n ≠ 0) (hk : k < l.length) (h : l.getD k 0 = n) : (ord l)[(ordB l n k).length]? = some (k, n) := by
  obtain ⟨t, ht⟩ := ordB_ord l n (k + 1) hn h0 (by omega)
  rw [← ht, ordB_hit l n k h]
  simp
theorem ordB_mem (l : List Nat) (n k : Nat) (hn : n ≠ 0) : ∀ p ∈ ordB l n k, p.2 ≤ n := by
  induction n generalizing k with
  | zero => omega
  | succ n ih =>
    intro p hp
    simp only [ordB, List.mem_append] at hp
    rcases hp with hp | hp
    · by_cases h : n = 0
      · simp [h] at hp
      · simp only [h, if_false] at hp
        have := ih l.length h p hp
        omega
    · simp only [rowOf, List.mem_filterMap, List.mem_range, Option.ite_none_right_eq_some, Option.some.injEq] at hp
      obtain ⟨i, _, _, rfl⟩ := hp
      exact Nat.le_refl _
theorem ord_pos' (l : List Nat) (n k : Nat) (hn : n ≤ 20) (h0 : n ≠ 0) (hk : k ≤ l.length) (j : Nat) (hj : j < (ordB l n k).length) :
    ∃ n' k', n' ≠ 0 ∧ n' ≤ 20 ∧ k' < l.length ∧ l.getD k' 0 = n' ∧ (ordB l n' k').length = j := by
  induction n generalizing k j with
  | zero => omega
  | succ n ih =>
    induction k generalizing j with
    | zero =>
      by_cases h : n = 0
      · subst h; rw [ordB_one] at hj; simp at hj
      · rw [ordB_row l n h] at hj
        exact ih l.length (by omega) h (Nat.le_refl _) j hj
    | succ k ihk =>
      by_cases h : l.getD k 0 = n + 1
      · rw [ordB_hit l _ k h, List.length_append] at hj
        simp only [List.length_cons, List.length_nil] at hj
        by_cases e : j < (ordB l (n + 1) k).length
        · exact ihk (by omega) j e
        · exact ⟨n + 1, k, by omega, hn, by omega, h, by omega⟩
      · rw [ordB_miss l _ k h] at hj
        exact ihk (by omega) j hj
theorem ord_pos (l : List Nat) (j : Nat) (hj : j < (ord l).length) :
    ∃ n k, n ≠ 0 ∧ n ≤ 20 ∧ k < l.length ∧ l.getD k 0 = n ∧ (ordB l n k).length = j ∧ (ord l)[j]? = some (k, n) := by
  obtain ⟨n, k, h1, h2, h3, h4, h5⟩ := ord_pos' l 20 l.length (by omega) (by omega) (Nat.le_refl _) j hj
  exact ⟨n, k, h1, h2, h3, h4, h5, by rw [← h5]; exact ord_at l n k h2 h1 h3 h4⟩
def accI (l : List Nat) (j : Nat) : Nat := (((ord l).take j).map fun p => 2 ^ (20 - p.2)).sum
def outsI (l : List Nat) (j : Nat) : List Nat := ((ord l).take j).foldl (fun o p => o.set p.1 (word l p.1)) (List.replicate l.length 0)
theorem accI_succ (l : List Nat) (j k n : Nat) (h : (ord l)[j]? = some (k, n)) : accI l (j + 1) = accI l j + 2 ^ (20 - n) := by
  unfold accI
  rw [List.take_add_one, h]
  simp
theorem outsI_succ (l : List Nat) (j k n : Nat) (h : (ord l)[j]? = some (k, n)) : outsI l (j + 1) = (outsI l j).set k (word l k) := by
  unfold outsI
  rw [List.take_add_one, h]
  simp
theorem acc_I' (l : List Nat) (n k : Nat) (hn : n ≤ 20) (h0 : n ≠ 0) (hk : k ≤ l.length) :
    acc l n k = accI l (ordB l n k).length ∧ outs l n k = outsI l (ordB l n k).length := by
  induction n generalizing k with
  | zero => omega
  | succ n ih =>
    induction k with
    | zero =>
      by_cases h : n = 0
      · subst h
        rw [ordB_one, acc_one, outs_one]
        simp [accI, outsI]
      · rw [ordB_row l n h, ← acc_row, ← outs_row]
        exact ih l.length (by omega) h (Nat.le_refl _)
    | succ k ihk =>
      obtain ⟨ih1, ih2⟩ := ihk (by omega)
      have hg : l.getD k 0 = l[k] := by simp [show k < l.length by omega]
      by_cases h : l.getD k 0 = n + 1
      · have ha := ord_at l (n + 1) k hn h0 (by omega) h
        rw [ordB_hit l _ k h, List.length_append]
        simp only [List.length_cons, List.length_nil]
        rw [accI_succ l _ k _ ha, outsI_succ l _ k _ ha, ← ih1, ← ih2, acc_hit l (n + 1) k (by omega) (by omega) (by omega), outs_hit l (n + 1) k (by omega) (by omega) (by omega)]
        refine ⟨rfl, ?_⟩
        rw [word, if_neg (by omega), h]
      · rw [ordB_miss l _ k h, acc_miss l (n + 1) k (by omega) (by omega), outs_miss l (n + 1) k (by omega) (by omega)]
        exact ⟨ih1, ih2⟩
theorem outsI_end (l : List Nat) (h : ∀ x ∈ l, x ≤ 20) : outsI l (ord l).length = words l := by
  rw [← outs_end l h, ← outs_row]
  exact (acc_I' l 20 l.length (by omega) (by omega) (Nat.le_refl _)).2.symm
theorem foldl_set_length (t : List (Nat × Nat)) (f : Nat × Nat → Nat) (o : List Nat) : (t.foldl (fun o p => o.set p.1 (f p)) o).length = o.length := by
  induction t generalizing o with
  | nil => rfl
  | cons a t ih => simp [ih]
theorem outsI_length (l : List Nat) (j : Nat) : (outsI l j).length = l.length := by
  unfold outsI; rw [foldl_set_length _ (fun p => word l p.1)]; simp
theorem accI_le (l : List Nat) (j : Nat) (h : j < (ord l).length) : accI l j ≤ weight l := by
  obtain ⟨n, k, h1, h2, h3, h4, h5, h6⟩ := ord_pos l j h
  rw [← h5, ← (acc_I' l n k h2 h1 (by omega)).1]
  exact acc_le _ _ _
def bitsI (l : List Nat) (j : Nat) : Nat := if j = 0 then 0 else ((ord l).getD (j - 1) (0, 0)).2
theorem words_step (l : List Nat) (j nx : Nat) (hj : j < (ord l).length) (hw : weight l ≤ 2 ^ 20) (hx : nx * 2 ^ (20 - bitsI l j) = accI l j) :
    ∃ k n, (ord l)[j]? = some (k, n) ∧ k < l.length ∧ n ≠ 0 ∧ n ≤ 20 ∧ bitsI l j ≤ n ∧ bitsI l (j + 1) = n ∧ word l k = nx * 2 ^ (n - bitsI l j) ∧ nx * 2 ^ (n - bitsI l j) ≤ 2 ^ 20 ∧
      (nx * 2 ^ (n - bitsI l j) + 1) * 2 ^ (20 - n) = accI l (j + 1) := by
  obtain ⟨n, k, h1, h2, h3, h4, h5, h6⟩ := ord_pos l j hj
  have hb : bitsI l j ≤ n := by
    unfold bitsI
    split
    · omega
    · rename_i h
      have hp := ordB_ord l n k h2 h1 (by omega)
      have hl : j - 1 < (ordB l n k).length := by omega
      obtain ⟨t, ht⟩ := hp
      have : (ord l).getD (j - 1) (0, 0) = (ordB l n k)[j - 1] := by
        rw [← ht]; simp [List.getD, List.getElem?_append_left hl, List.getElem?_eq_getElem hl]
      rw [this]
      exact ordB_mem l n k h1 _ (List.getElem_mem hl)
  have hbn : bitsI l (j + 1) = n := by simp [bitsI, List.getD, h6]
  have he : 20 - bitsI l j = (n - bitsI l j) + (20 - n) := by omega
  have hpow : 2 ^ (20 - bitsI l j) = 2 ^ (n - bitsI l j) * 2 ^ (20 - n) := by rw [he, Nat.pow_add]
  have hacc : accI l j = nx * 2 ^ (n - bitsI l j) * 2 ^ (20 - n) := by rw [← hx, hpow, Nat.mul_assoc]
  have hpos : 0 < 2 ^ (20 - n) := Nat.pow_pos (by decide)
  have hal := accI_le l j hj
  rw [hacc] at hal
  have hm := Nat.le_mul_of_pos_right (nx * 2 ^ (n - bitsI l j)) hpos
  clear he hpow
  refine ⟨k, n, h6, h3, h1, h2, hb, hbn, ?_, ?_, ?_⟩
  · rw [word, if_neg (by omega), h4, (acc_I' l n k h2 h1 (by omega)).1, h5, hacc, Nat.mul_div_cancel _ hpos]
  · exact Nat.le_trans hm (Nat.le_trans hal hw)
  · rw [accI_succ l j k n h6, hacc, Nat.add_mul, Nat.one_mul]
end Go.Proofs.YtendielanacflaaGreat.M04

namespace Go.Proofs.YtendielanacflaaGreat
open Go.RowKit M04
set_option linter.unusedVariables false
set_option maxHeartbeats 400000 in
theorem kraft_weight (a : Option Addr) (cap : Nat) (l : List Nat) (w : World) (hr : RowN .u8 w a cap l) (hm : May l) :
    Calls Tryz.prog 124 #[.slice a l.length cap] w fun e w' => e = .returned (.int .i64 (weight l)) ∧ w = w' := by
  have hlen := hr.len
  obtain ⟨hl, hn⟩ := hm
  go_enter Tryz.func124, Tryz.ntmps124
  go_wp2
  go_loop [3, 8] (fun t i => ∃ k : Nat, k ≤ l.length ∧ i = .int .i64 k ∧ t = .int .i64 (weight (l.take k))) (fun _ i => l.length - (intOf i).toNat)
  case atStart => exact ⟨0, Nat.zero_le _, rfl, rfl⟩
  case round =>
    obtain ⟨k, hk, rfl, rfl⟩ := hrel
    by_cases hlt : k < l.length
    · obtain ⟨b, off, rfl, hb, hck⟩ := hr.at hlt
      clear hr
      have hx := hl _ (List.getElem_mem hlt)
      have H := Lib.hid (weight_succ l k hlt)
      have hw : weight (l.take k) ≤ 512 * 2 ^ 20 := weight_take_le l k hn
      clear hl
      generalize l[k] = x at *
      generalize weight (l.take k) = s at *
      go_wp2
      · go_round
        case rel =>
          refine ⟨k + 1, by omega, by go_num, int_eq ?_⟩
          have h0 : x ≠ 0 := by omega
          have h2 : (2 : Int) ^ (20 - x) = ((2 ^ (20 - x) : Nat) : Int) := by simp
          have h3 : 2 ^ (20 - x) ≤ 2 ^ 20 := Nat.pow_le_pow_right (by simp) (by omega)
          rw [H.out, h2, wt, if_neg h0]
          generalize 2 ^ (20 - x) = p at *
          rw [IntWalk.wrap64_in p (by omega), IntWalk.wrap64_in _ (by omega)]; simp
        case measure => simp [intOf]; omega
      · go_round
        case rel =>
          refine ⟨k + 1, by omega, by go_num, int_eq ?_⟩
          have h0 : x = 0 := by omega
          rw [H.out, wt, if_pos h0]; simp
        case measure => simp [intOf]; omega
    · go_wp2
      go_ret
      exact ⟨ret_int (by rw [List.take_of_length_le (by omega)]), rfl⟩
set_option maxHeartbeats 400000 in
theorem slices_max (a : Option Addr) (cap : Nat) (l : List Nat) (w : World) (hr : RowN .u8 w a cap l) (h0 : 0 < l.length) :
    Calls Tryz.prog 148 #[.slice a l.length cap] w fun e w' => e = .returned (.int .u8 (top l)) ∧ w = w' := by
  have hlen := hr.len
  obtain ⟨b, off, rfl, hb, hc0⟩ := hr.at h0
  simp only [Nat.add_zero] at hc0
  have H0 : Hid (top (l.take 1) = l[0]) := by have := top_snoc l 0 h0; simpa [Hid, top] using this
  go_enter Tryz.func148, Tryz.ntmps148
  go_wp2
  go_loop [3, 4] (fun t i => ∃ k : Nat, 1 ≤ k ∧ k ≤ l.length ∧ i = .int .i64 k ∧ t = .int .u8 (top (l.take k))) (fun _ i => l.length - (intOf i).toNat)
  case atStart => exact ⟨1, by omega, by omega, rfl, by rw [H0.out]⟩
  case round =>
    obtain ⟨k, hk1, hk, rfl, rfl⟩ := hrel
    by_cases hlt : k < l.length
    · obtain ⟨b', off', he, hb', hck⟩ := hr.at hlt
      simp only [Option.some.injEq, Addr.mk.injEq, and_true] at he
      obtain ⟨rfl, rfl⟩ := he
      clear hr hc0 H0
      have H := Lib.hid (top_snoc l k hlt)
      generalize l[k] = x at *
      generalize top (l.take k) = s at *
      go_wp2
      go_round
      case rel => exact ⟨k + 1, by omega, by omega, by go_num, int_eq (by rw [H.out]; split <;> omega)⟩
      case measure => simp [intOf]; omega
    · go_wp2
      go_ret
      exact ⟨ret_int (by rw [List.take_of_length_le (by omega)]), rfl⟩
set_option maxHeartbeats 400000 in
theorem kraft_may (a : Option Addr) (cap : Nat) (l : List Nat) (w : World) (hr : RowN .u8 w a cap l) :
    Calls Tryz.prog 123 #[.slice a l.length cap] w fun e w' => e = .returned (.bool (mayB l)) ∧ w = w' := by
  have hlen := hr.len
  by_cases h5 : l.length ≤ 512
  · by_cases h0 : l = []
    · subst h0
      go_enter Tryz.func123, Tryz.ntmps123
      go_wp2
      go_ret
      exact ⟨rfl, rfl⟩
    · have hp : 0 < l.length := List.length_pos_iff.2 h0
      have hb : ((l.length : Int) == 0) = false := by simp; omega
      have H : Hid (mayB l = decide ((top l : Int) ≤ 20)) := by
        have := top_le l 20
        show decide (May l) = _
        rw [decide_eq_decide, May]
        constructor
        · intro h; have := this.2 h.1; omega
        · intro h; exact ⟨this.1 (by omega), h5⟩
      clear h0
      go_enter Tryz.func123, Tryz.ntmps123
      go_wp2_with (go_at_call 148; refine (slices_max _ _ _ _ hr hp).mono ?_; rintro e w' ⟨rfl, rfl⟩)
      go_ret
      exact ⟨ret_bool H.out.symm, rfl⟩
  · have H : Hid (mayB l = false) := by unfold Hid mayB May; simp [h5]
    go_enter Tryz.func123, Tryz.ntmps123
    go_wp2
    go_ret
    exact ⟨ret_bool H.out.symm, rfl⟩
set_option maxHeartbeats 400000 in
theorem kraft_classify (a : Option Addr) (cap : Nat) (l : List Nat) (w : World) (hr : RowN .u8 w a cap l) :
    Calls Tryz.prog 89 #[.slice a l.length cap] w fun e w' => e = .returned (.tuple #[.int .u8 (clsE l).1, .int .i64 (clsE l).2]) ∧ w = w' := by
  have hlen := hr.len
  by_cases hm : May l
  · have hB : mayB l = true := by simp [mayB, hm]
    have H : Hid (clsE l = (cls l, 0)) := by simp [Hid, clsE, hm]
    have H2 : Hid (cls l = if weight l = 0 then 0 else if weight l < 2 ^ 20 then 1 else if weight l = 2 ^ 20 then 2 else 3) := rfl
    have hw : weight l ≤ 512 * 2 ^ 20 := by have := weight_take_le l l.length hm.2; simpa using this
    have HM := Lib.hid hm
    clear hm
    rcases (by omega : weight l = 0 ∨ (weight l ≠ 0 ∧ weight l < 2 ^ 20) ∨ weight l = 2 ^ 20 ∨ 2 ^ 20 < weight l) with c | ⟨c, d⟩ | c | c
    · have b0 : ((weight l : Int) == 0) = true := by simp [c]
      have H3 : Hid (cls l = 0) := by rw [Hid, H2.out, if_pos c]
      clear c
      go_enter Tryz.func89, Tryz.ntmps89
      go_wp2_with (first | (go_at_call 123; refine (kraft_may _ _ _ _ hr).mono ?_; rintro e w' ⟨rfl, rfl⟩) | (go_at_call 124; refine (kraft_weight _ _ _ _ hr HM.out).mono ?_; rintro e w' ⟨rfl, rfl⟩))
      go_ret2
      exact ⟨by rw [H.out, H3.out]; rfl, rfl⟩
    · have b0 : ((weight l : Int) == 0) = false := by simp [c]
      have b1 : decide ((weight l : Int) < 1048576) = true := by simp; omega
      have H3 : Hid (cls l = 1) := by rw [Hid, H2.out, if_neg c, if_pos d]
      clear c
      go_enter Tryz.func89, Tryz.ntmps89
      go_wp2_with (first | (go_at_call 123; refine (kraft_may _ _ _ _ hr).mono ?_; rintro e w' ⟨rfl, rfl⟩) | (go_at_call 124; refine (kraft_weight _ _ _ _ hr HM.out).mono ?_; rintro e w' ⟨rfl, rfl⟩))
      go_ret2
      exact ⟨by rw [H.out, H3.out]; rfl, rfl⟩
    · have b0 : ((weight l : Int) == 0) = false := by simp [c]
      have H3 : Hid (cls l = 2) := by rw [Hid, H2.out, if_neg (by omega), if_neg (by omega), if_pos c]
      have b1 : decide ((weight l : Int) < 1048576) = false := by simp; omega
      have b2 : ((weight l : Int) == 1048576) = true := by simp [c]
      clear c
      go_enter Tryz.func89, Tryz.ntmps89
      go_wp2_with (first | (go_at_call 123; refine (kraft_may _ _ _ _ hr).mono ?_; rintro e w' ⟨rfl, rfl⟩) | (go_at_call 124; refine (kraft_weight _ _ _ _ hr HM.out).mono ?_; rintro e w' ⟨rfl, rfl⟩))
      go_ret2
      exact ⟨by rw [H.out, H3.out]; rfl, rfl⟩
    · have b0 : ((weight l : Int) == 0) = false := by simp; omega
      have H3 : Hid (cls l = 3) := by rw [Hid, H2.out, if_neg (by omega), if_neg (by omega), if_neg (by omega)]
      have b1 : decide ((weight l : Int) < 1048576) = false := by simp; omega
      have b2 : ((weight l : Int) == 1048576) = false := by simp; omega
      clear c
      go_enter Tryz.func89, Tryz.ntmps89
      go_wp2_with (first | (go_at_call 123; refine (kraft_may _ _ _ _ hr).mono ?_; rintro e w' ⟨rfl, rfl⟩) | (go_at_call 124; refine (kraft_weight _ _ _ _ hr HM.out).mono ?_; rintro e w' ⟨rfl, rfl⟩))
      go_ret2
      exact ⟨by rw [H.out, H3.out]; rfl, rfl⟩
  · have hB : mayB l = false := by simp [mayB, hm]
    have H : Hid (clsE l = (0, 5)) := by simp [Hid, clsE, hm]
    clear hm
    go_enter Tryz.func89, Tryz.ntmps89
    go_wp2_with (go_at_call 123; refine (kraft_may _ _ _ _ hr).mono ?_; rintro e w' ⟨rfl, rfl⟩)
    go_ret2
    exact ⟨by rw [H.out]; rfl, rfl⟩
end Go.Proofs.YtendielanacflaaGreat

namespace Go.Proofs.YtendielanacflaaGreat
open Go.RowKit M04
set_option linter.unusedVariables false
theorem et_u32 : ElemTy Tryz.prog 122 44 .u32 4 := ⟨Tryz.underlying122, by kernel_rfl⟩
theorem et_u8 : ElemTy Tryz.prog 24 5 .u8 1 := ⟨Tryz.underlying24, by kernel_rfl⟩
def WordsOut (w : World) (l : List Nat) (e : Ending) (w' : World) : Prop :=
  ∃ a cap, e = .returned (.tuple #[.slice a (wordsE l).1.length cap, .int .i64 (wordsE l).2]) ∧ OwnN 44 .u32 w' w.heap.size a cap (wordsE l).1 ∧ Below w.heap.size w w'
end Go.Proofs.YtendielanacflaaGreat
