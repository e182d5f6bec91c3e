/- Words that all seats use: of the model's parts, and of the layers. -/
import Derived.Test.YtmgoeokdlklabaaPrefix
import Derived.Test.YtmgoeokdlklabaaLibS
import Derived.Test.YtmgoeokdlklabaaM08
import Derived.Test.YtmgoeokdlklabaaTok3
import Derived.Maps.AppendAt
import Derived.WalkLawsBesides
import Derived.Lib.SlicesS
namespace Go.Proofs.Ytmgoeokdlklabaa
open Go.RowKit Go.Shelf M01 M04 M08
set_option linter.unusedVariables false

theorem two_cells {w : World} {b : Nat} {x y : Value} {t : TypeId} (h : w.heap[b]? = some (.cells #[x, y] t (0, 0))) : w.cell? ⟨b, 0, none⟩ = some x ∧ w.cell? ⟨b, 1, none⟩ = some y :=
  ⟨(two_cell h).1, (two_cell h).2.1⟩
theorem Rd.lt {w : World} {p at_ : Nat} {bs : List Nat} (h : Rd w p bs at_) : p < w.heap.size := by
  obtain ⟨a, cap, h1, h2, h3⟩ := h
  exact (Array.getElem?_eq_some_iff.1 h1).1

theorem results_tmp3' {fn : Func} {t u v : Tmp} (h : fn.results = #[.tmp t, .tmp u, .tmp v]) (tmps : Array Value) (P : Program) (w : World) :
    (results fn tmps).run P w = .ok (.tuple #[tmps.getD t undef, tmps.getD u undef, tmps.getD v undef]) w := by
  simp [results, h, go_sem]
theorem box_b (w : World) (o : Obj) : Below w.heap.size w (w.alloc o) := (Below.refl _ _).alloc (Nat.le_refl _) _
theorem box2_cells (w : World) (u v : Value) (t : TypeId) : (w.alloc (.cells #[u, v] t)).cell? ⟨w.heap.size, 0, none⟩ = some u ∧ (w.alloc (.cells #[u, v] t)).cell? ⟨w.heap.size, 1, none⟩ = some v := by
  have h := World.alloc_heap_new w (.cells #[u, v] t)
  exact ⟨(two_cell h).1, (two_cell h).2.1⟩
def loS (s : Int) : Nat × Nat × Nat := if 257 ≤ s ∧ s ≤ 285 then (lensL.getD (s.toNat - 257) 0, lbits s.toNat, 0) else (0, 0, 5)
def doS (s : Int) : Nat × Nat × Nat := if 0 ≤ s ∧ s < 30 then (distL.getD s.toNat 0, dbits s.toNat, 0) else (0, 0, 5)
theorem only_drewN (T : Nat → Prop) (w : World) (q : Nat) : Only T w (w.drewN q) := ⟨rfl, rfl, rfl, Nat.le_refl _, fun _ _ _ => rfl⟩
/-- ErrForm, thrown -/
def formP : List PanicEntry := [{ v := .iface 25 (.int .i64 2), recovered := false }]
theorem app1AtN {P : Program} {T E : TypeId} {k : IntKind} {bytes : Nat} (et : ElemTy P T E k bytes) {w : World} {ops : Array Oper} {rest : List Oper} {o : Oper} {ac : Act} {Q : Exit → Act → World → Prop} (hgd : o.guard = none) (s x : Operand)
    (ho : o.op = .call { callee := .builtin .append, args := #[s, x], argTypes := #[T, T] }) {base : Nat} {a : Option Addr} {cap : Nat} {l : List Nat} {y : Nat} {c E' : Nat}
    (hs : ac.eval s = .slice a l.length cap) (hown : OwnN E k w base a cap l) (hx : ac.eval x = .slice (some ⟨w.heap.size, 0, none⟩) 1 c) (hc : 1 ≤ c) (hc' : c ≤ 9223372036854775807)
    (hn : l.length + 1 ≤ 9223372036854775807) (hbytes : (l.length + 1) * bytes ≤ 140737488355328) (hbase : base ≤ w.heap.size)
    (h : ∀ a' cap' w', OwnN E k w' base a' cap' (l ++ [y]) → w.grownBy w' (Value.slice a l.length cap).ownBlock → (∀ g, a' = some ⟨g, 0, none⟩ → a = some ⟨g, 0, none⟩ ∨ w.heap.size ≤ g) → wpList P ops Q rest (ac.put o.dst (.slice a' (l.length + 1) cap')) w') :
    wpList P ops Q (o :: rest) ac (w.alloc (.cells #[.int k y] E')) := by
  obtain ⟨i, h2, h3, h4, h5⟩ := info_parts et.info
  refine wpList_plain hgd fun K hK' => ?_
  have hy : RowN k (w.alloc (.cells #[.int k y] E')) (some ⟨w.heap.size, 0, none⟩) c [y] := by
    refine ⟨by simpa using hc, ⟨hc', fun hn => by cases hn⟩, .inr ⟨w.heap.size, 0, rfl, by simp, fun i hi => ?_⟩⟩
    obtain rfl : i = 0 := by simp at hi; omega
    simp [World.cell?_alloc_at]
  obtain ⟨v', w', hr, h6, h7, h8, h9⟩ := run_append_own_at (P := P) (w.alloc (.cells #[.int k y] E')) base T o.type E i (.int k 0) 1 bytes et.und h2 h3 h4 h5 rfl (by decide) _ l.length _ (hown.alloc (.cells #[.int k y] E')) ⟨w.heap.size, 0, none⟩ 1 c ([y].map fun (n : Nat) => Value.int k n) (by simp)
    (cells_of_rowN hy _ rfl) (by intro u hu; simp only [List.mem_map] at hu; obtain ⟨n, _, rfl⟩ := hu; rfl) (by simpa [maxLen] using hn) hbytes (by simp; omega)
  have hv : ∃ a' cap', v' = .slice a' (l.length + 1) cap' := by
    rcases h6.2 with ⟨h9, h10⟩ | ⟨g, c', cur, h9, _⟩
    · exact ⟨none, 0, by rw [h9, h10]⟩
    · exact ⟨_, _, h9⟩
  obtain ⟨a', cap', rfl⟩ := hv
  have hown' : OwnN E k w' base a' cap' (l ++ [y]) := by
    unfold OwnN; rw [List.length_append, List.map_append]; exact h6
  unfold Oper.wp
  simp [execOp, ho, resolve, invoke, builtin, hs, hx, hr, Result.andThen]
  refine hK' _ _ (h a' cap' w' hown' ⟨h7.os, h7.tape, h7.output, Nat.le_trans (by simp) h7.size, fun q hq hr => (h7.block q (by simp; omega) hr).trans (Below.heap_alloc _ _ _ hq)⟩ ?_)
  rintro g rfl
  rcases h9 with h9 | h9
  · left
    rcases hown.form with ⟨rfl, _, _⟩ | ⟨g', rfl, _⟩
    · simp [Value.ownBlock] at h9
    · simp [Value.ownBlock] at h9
      rw [h9]
  · right
    simp [Value.ownBlock] at h9
    omega
theorem Rd.only {T : Nat → Prop} {w w' : World} {p at_ : Nat} {bs : List Nat} (h : Rd w p bs at_) (ho : Only T w w') (hT : ∀ b, b ≤ p → ¬ T b) : Rd w' p bs at_ := by
  have hlt := h.lt
  obtain ⟨a, cap, h1, h2, h3, h4, h5, h6⟩ := h
  exact ⟨a, cap, (ho.block p hlt (hT p (Nat.le_refl _))).trans h1, h2.same ho.size (fun x _ hx => ho.block _ (by have := h6 x hx; omega) (hT _ (by have := h6 x hx; omega))), h3, h4, h5, h6⟩
theorem four_cells {w : World} {b : Nat} {x y z u : Value} {t : TypeId} (h : w.heap[b]? = some (.cells #[x, y, z, u] t (0, 0))) : w.cell? ⟨b, 0, none⟩ = some x ∧ w.cell? ⟨b, 1, none⟩ = some y ∧ w.cell? ⟨b, 2, none⟩ = some z ∧ w.cell? ⟨b, 3, none⟩ = some u ∧ w.frozen? ⟨b, 1, none⟩ = false ∧ w.frozen? ⟨b, 3, none⟩ = false := by
  simp [World.cell?, World.frozen?, h]
theorem four_set {w : World} {b : Nat} {x y z u v : Value} {t : TypeId} (h : w.heap[b]? = some (.cells #[x, y, z, u] t (0, 0))) :
    (w.setCell ⟨b, 1, none⟩ v).heap[b]? = some (.cells #[x, v, z, u] t (0, 0)) ∧ (w.setCell ⟨b, 3, none⟩ v).heap[b]? = some (.cells #[x, y, z, v] t (0, 0)) := by
  constructor
  · show (w.heap.modify b _)[b]? = _
    rw [Array.getElem?_modify, if_pos rfl, h]; rfl
  · show (w.heap.modify b _)[b]? = _
    rw [Array.getElem?_modify, if_pos rfl, h]; rfl
theorem own_ne {E : TypeId} {k : IntKind} {w : World} {base cap n sp : Nat} {a : Option Addr} {l : List Nat} (h : OwnN E k w base a cap l) (h7 : ∀ g, a = some ⟨g, 0, none⟩ → sp < g) (b : Nat) (hb : b ≤ sp) : some b ≠ (Value.slice a n cap).ownBlock := by
  rcases h.form with ⟨rfl, _, _⟩ | ⟨g, rfl, _⟩
  · simp [Value.ownBlock]
  · have := h7 g rfl
    simp [Value.ownBlock]
    omega
theorem four_frozen {w : World} {b : Nat} {x y z u : Value} {t : TypeId} (h : w.heap[b]? = some (.cells #[x, y, z, u] t (0, 0))) : w.frozen? ⟨b, 0, none⟩ = false ∧ w.frozen? ⟨b, 1, none⟩ = false ∧ w.frozen? ⟨b, 2, none⟩ = false ∧ w.frozen? ⟨b, 3, none⟩ = false := by
  simp [World.frozen?, h]
theorem one_frozen {w : World} {b : Nat} {u : Value} {t : TypeId} (h : w.heap[b]? = some (.cells #[u] t (0, 0))) : w.frozen? ⟨b, 0, none⟩ = false := by simp [World.frozen?, h]
theorem xor_bits (n : Nat) (h : n < 65536) : bits .xor .i64 (n : Int) 65535 = ((65535 - n : Nat) : Int) := by
  have h1 : (BitVec.ofInt 64 (n : Int)).toNat = n := by
    rw [BitVec.ofInt_natCast, BitVec.toNat_ofNat]; exact Nat.mod_eq_of_lt (by omega)
  have h2 : (BitVec.ofInt 64 (65535 : Int)).toNat = 65535 := by decide
  have h3 : n ^^^ 65535 = 65535 - n := by
    have e : (BitVec.ofNat 16 n ^^^ BitVec.allOnes 16).toNat = 65535 - n := by
      rw [BitVec.xor_allOnes, BitVec.toNat_not, BitVec.toNat_ofNat, Nat.mod_eq_of_lt (by omega : n < 2 ^ 16)]
    rw [BitVec.toNat_xor, BitVec.toNat_ofNat, BitVec.toNat_allOnes, Nat.mod_eq_of_lt (by omega : n < 2 ^ 16)] at e
    exact e
  show IntKind.i64.wrap ((BitVec.ofInt 64 (n : Int) ^^^ BitVec.ofInt 64 (65535 : Int)).toNat : Int) = _
  rw [BitVec.toNat_xor, h1, h2, h3, IntKind.wrap_i64]
  omega
theorem rowN_take {k : IntKind} {w : World} {a : Option Addr} {cap : Nat} {l : List Nat} (h : RowN k w a cap l) (n : Nat) : RowN k w a cap (l.take n) := by
  obtain ⟨h1, h2, h3⟩ := h
  refine ⟨by simp; omega, h2, ?_⟩
  rcases h3 with rfl | ⟨b, off, rfl, hb, hc⟩
  · exact .inl (by simp)
  · refine .inr ⟨b, off, rfl, hb, fun i hi => ?_⟩
    have hi2 : i < l.length := by simp at hi; omega
    rw [hc i hi2]
    simp
theorem rowN_drop {k : IntKind} {w : World} {b off cap : Nat} {l : List Nat} (h : RowN k w (some ⟨b, off, none⟩) cap l) (n : Nat) (hn : n < l.length) : RowN k w (some ⟨b, off + n, none⟩) (cap - n) (l.drop n) := by
  obtain ⟨h1, h2, h3⟩ := h
  refine ⟨by simp; omega, ⟨by omega, fun e => by cases e⟩, ?_⟩
  rcases h3 with rfl | ⟨b', off', he, hb, hc⟩
  · simp at hn
  · simp only [Option.some.injEq, Addr.mk.injEq, and_true] at he
    obtain ⟨rfl, rfl⟩ := he
    refine .inr ⟨b, off + n, rfl, hb, fun i hi => ?_⟩
    have hi2 : n + i < l.length := by simp at hi; omega
    rw [Nat.add_assoc, hc _ hi2]
    simp
theorem rowN_sub {k : IntKind} {w : World} {b off cap : Nat} {l : List Nat} (h : RowN k w (some ⟨b, off, none⟩) cap l) (i n : Nat) (hi : i + n ≤ l.length) : RowN k w (some ⟨b, off + i, none⟩) (cap - i) ((l.drop i).take n) := by
  obtain ⟨h1, ⟨h2, _⟩, h3⟩ := h
  refine ⟨by simp; omega, ⟨by omega, by simp⟩, ?_⟩
  rcases h3 with rfl | ⟨b', off', he, hb, hc⟩
  · left; simp
  · right
    simp only [Option.some.injEq, Addr.mk.injEq, and_true] at he
    obtain ⟨rfl, rfl⟩ := he
    refine ⟨b, off + i, rfl, hb, fun j hj => ?_⟩
    rw [List.length_take, List.length_drop] at hj
    rw [Nat.add_assoc, List.getElem_take, List.getElem_drop]
    exact hc (i + j) (by omega)
theorem Only.ofBelow {T : Nat → Prop} {w w' : World} (h : Below w.heap.size w w') : Only T w w' := ⟨h.os, h.tape, h.output, h.size, fun b hb _ => h.block b hb⟩
/-- the same, but for blocks that were made since -/
def Sub (P : Nat → Prop) (lo hi : Nat) (b : Nat) : Prop := P b ∧ ¬ (lo ≤ b ∧ b < hi)
theorem Only.widen {P : Nat → Prop} {lo hi : Nat} {w w' : World} (h : Only (Sub P lo hi) w w') : Only P w w' := h.mono (fun k _ hk => hk.1)
theorem Tb.widen {lo hi lo' hi' p : Nat} {w : World} {l : List Nat} (h : Tb lo hi w p l) (h1 : lo' ≤ lo) (h2 : hi ≤ hi') (h3 : hi' ≤ w.heap.size) : Tb lo' hi' w p l := by
  obtain ⟨a1, c1, a2, c2, mb, n, g1, g2, g3, g4, g5, g6, g7, g8, g9⟩ := h
  exact ⟨a1, c1, a2, c2, mb, n, g1, g2, g3, g4, h3, by omega, by omega, fun x hx => by have := g8 x hx; omega, fun x hx => by have := g9 x hx; omega⟩
theorem Tb.below {lo hi p : Nat} {w w' : World} {l : List Nat} (h : Tb lo hi w p l) (hb : Below w.heap.size w w') : Tb lo hi w' p l :=
  h.only (T := fun _ => False) (.ofBelow hb) (fun _ _ _ h => h)
theorem wordsE_may {l : List Nat} (h : (wordsE l).2 = 0) : May l ∧ weight l ≤ 2 ^ 20 := by
  unfold wordsE at h
  split at h
  · simp at h
  · split at h
    · simp at h
    · next h1 h2 => exact ⟨by simpa using h1, by omega⟩
/-- where a reader stands -/
def rdAt (A : World) (rp : Nat) : Nat := match A.cell? ⟨rp, 1, none⟩ with
  | some v => (intOf v).toNat
  | none => 0
theorem rdAt_eq {A : World} {rp at_ : Nat} {bs : List Nat} (h : Rd A rp bs at_) : rdAt A rp = at_ := by
  obtain ⟨a, cap, h1, _⟩ := h
  unfold rdAt
  simp only [(two_cells h1).2]
  simp [intOf]
theorem ba_beq (x y : ByteArray) : (x == y) = decide (x = y) := by
  cases x; cases y
  rename_i a b
  show (a == b) = _
  rw [Bool.eq_iff_iff]
  simp
theorem tl_beq (x y : ByteArray) : (x.toList == y.toList) = decide (x = y) := by
  by_cases h : x = y
  · subst h; simp
  · rw [(Lib.bytes_beq_false_iff x y).2 h]; simp [h]
theorem min2I (x y z : Int) (hz : min x y = z) (w : World) : (Builtin.min2 (.int .i64 x) (.int .i64 y) : Sem Value).run Try.prog w = .ok (.int .i64 z) w := by
  subst hz
  by_cases h : y < x
  · rw [Int.min_eq_right (by omega)]
    simp [Builtin.min2, h, go_sem]
  · rw [Int.min_eq_left (by omega)]
    simp [Builtin.min2, h, go_sem]
theorem bit_take (l m : List Nat) (u i : Nat) (h : i < 8 * u) (hu : u ≤ l.length) : bit (l.take u ++ m) i = bit l i := by
  unfold bit
  congr 2
  have h1 : i / 8 < u := by omega
  simp only [List.getD]
  rw [List.getElem?_append_left (by simp; omega), List.getElem?_take_of_lt h1]
theorem OwnN.lit {k : IntKind} (E : TypeId) (w : World) (base : Nat) (l : List Nat) (vs : Array Value) (B : Nat) (hB : B = w.heap.size) (hv : vs = (l.map fun (n : Nat) => Value.int k n).toArray) (hb : base ≤ w.heap.size) (hl : l.length ≤ maxLen) :
    OwnN E k (w.alloc (.cells vs E)) base (some ⟨B, 0, none⟩) l.length l := by
  subst hB hv
  exact ⟨by simp, .inr ⟨w.heap.size, l.length, (l.map fun (n : Nat) => Value.int k n).toArray, rfl, hb, World.alloc_heap_new w _, Nat.le_refl _, hl, by simp, by simp [List.take_of_length_le]⟩⟩
theorem strOf_push (l : List Nat) : ∀ r : ByteArray, ((l.map fun (n : Nat) => (n : Int)).foldl (fun r n => r.push (UInt8.ofNat n.toNat)) r) = r ++ ByteArray.mk (l.map UInt8.ofNat).toArray := by
  induction l with
  | nil => intro r; simp [ByteArray.ext_iff]
  | cons x t ih =>
    intro r
    simp only [List.map_cons, List.foldl_cons, Int.toNat_natCast]
    rw [ih]
    simp [ByteArray.ext_iff]
theorem strOf_eq (l : List Nat) : strOf l = ByteArray.mk (l.map UInt8.ofNat).toArray := by
  unfold strOf
  rw [strOf_push]
  simp
theorem strOf_append (l m : List Nat) : strOf (l ++ m) = strOf l ++ strOf m := by
  rw [strOf_eq, strOf_eq, strOf_eq]
  simp [ByteArray.ext_iff]
theorem strOf_size (l : List Nat) : (strOf l).size = l.length := by
  rw [strOf_eq]
  simp [ByteArray.size]
theorem strOf_inj {l m : List Nat} (hl : ∀ x ∈ l, x < 256) (hm : ∀ x ∈ m, x < 256) (h : strOf l = strOf m) : l = m := by
  rw [strOf_eq, strOf_eq] at h
  have h1 : l.map UInt8.ofNat = m.map UInt8.ofNat := by simpa [ByteArray.ext_iff] using h
  have h2 := congrArg (List.map UInt8.toNat) h1
  simp only [List.map_map] at h2
  have f : ∀ l : List Nat, (∀ x ∈ l, x < 256) → l.map (UInt8.toNat ∘ UInt8.ofNat) = l := fun l hl => by
    conv => rhs; rw [← List.map_id l]
    refine List.map_congr_left fun x hx => ?_
    have := hl x hx
    simp
    omega
  rwa [f l hl, f m hm] at h2
end Go.Proofs.Ytmgoeokdlklabaa
