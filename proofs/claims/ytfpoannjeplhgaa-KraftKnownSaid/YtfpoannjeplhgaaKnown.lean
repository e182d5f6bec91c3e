/- What the values of the great table literal are while its region is under way. -/
import Derived.Test.YtfpoannjeplhgaaFlow
import Derived.Test.YtfpoannjeplhgaaLibS
import Derived.Maps.AppendAt
namespace Go.Proofs.Ytfpoannjeplhgaa
open Go.RowKit
set_option linter.unusedVariables false

/-- the block that a value reaches -/
def blk : Value → Option Nat
  | .slice (some a) _ _ => some a.block
  | .agg cs => match cs.toList with
    | .slice (some a) _ _ :: _ => some a.block
    | _ => none
  | _ => none
/-- a row of the table in its cells -/
def encK : Enc (Option Addr × Nat × List Nat × Int × Int) where
  sz := 3
  cells x := [.slice x.1 x.2.2.1.length x.2.1, .int .u8 x.2.2.2.1, .int .i64 x.2.2.2.2]
  len _ := rfl
  one x u hu := by
    simp only [List.mem_cons, List.not_mem_nil, or_false] at hu
    rcases hu with rfl | rfl | rfl <;> rfl
  pos := by decide
inductive KV
  | tab (l : List (List Nat × Int × Int))
  | sl (l : List Nat)
  | st (l : List Nat) (c e : Int)
  | own (l : List Nat)
  | any
def KV.holds (E : TypeId) (B : Nat) (w : World) (v : Value) : KV → Prop
  | .sl l => ∃ a cap, v = .slice a l.length cap ∧ RowN .u8 w a cap l
  | .st l c e => ∃ a cap, v = .agg #[.slice a l.length cap, .int .u8 c, .int .i64 e] ∧ RowN .u8 w a cap l
  | .own l => ∃ a cap, v = .slice a l.length cap ∧ OwnN E .u8 w B a cap l
  | .any => True
  | .tab l => ∃ (a : Option Addr) (cap : Nat) (es : List (Option Addr × Nat × List Nat × Int × Int)), v = .slice a es.length cap ∧ RowS encK w a cap es ∧ es.map (·.2.2) = l ∧ ∀ x ∈ es, RowN .u8 w x.1 x.2.1 x.2.2.1
def KV.flat : KV → Bool
  | .tab _ => false
  | _ => true
def VK (E : TypeId) (B : Nat) (k : KV) (v : Value) (w : World) : Prop := k.holds E B w v ∧ ∀ b, blk v = some b → b < w.heap.size
theorem VK.below {E : TypeId} {B : Nat} {k : KV} {v : Value} {w w' : World} (h : VK E B k v w) (hb : Below w.heap.size w w') : VK E B k v w' := by
  refine ⟨?_, fun b hv => Nat.lt_of_lt_of_le (h.2 b hv) hb.size⟩
  have h1 := h.1
  cases k with
  | sl l => obtain ⟨a, cap, rfl, hr⟩ := h1; exact ⟨a, cap, rfl, hr.below hb⟩
  | st l c e => obtain ⟨a, cap, rfl, hr⟩ := h1; exact ⟨a, cap, rfl, hr.below hb⟩
  | own l => obtain ⟨a, cap, rfl, hr⟩ := h1; exact ⟨a, cap, rfl, hr.below hb⟩
  | any => trivial
  | tab l => obtain ⟨a, cap, es, rfl, hr, he, hx⟩ := h1; exact ⟨a, cap, es, rfl, hr.below hb, he, fun x hm => (hx x hm).below hb⟩
/-- two values reach no block together, where one of them may be appended to -/
def AP (grow : Nat → Bool) (i j : Nat) (u v : Value) : Prop := (grow i = true ∨ grow j = true) → ∀ b, blk u = some b → blk v ≠ some b
theorem AP.symm {grow : Nat → Bool} {i j : Nat} {u v : Value} (h : AP grow i j u v) : AP grow j i v u := fun hg b hb hc => h hg.symm b hc hb

/-- what is asked behind one operation -/
def KSt (ops : Array Oper) (E : TypeId) (w0 : World) (grow fin : Nat → Bool) (K : Nat → KV) (i : Nat) (o : Oper) (a : Act) (w : World) (a' : Act) (w' : World) : Prop :=
  ∃ v, a' = a.put o.dst v ∧ Below w0.heap.size w0 w' ∧ (∀ j u, usedB .any ops fin i j = true → VK E w0.heap.size (K j) u w → (∀ e ∈ o.after, wantE .any e = true → e.on ≠ j → ∀ oe, ops[e.on]? = some oe → AP grow e.on j (leftBy a oe) u ∧ AP grow j e.on u (leftBy a oe)) →
    VK E w0.heap.size (K j) u w' ∧ AP grow i j (match o.dst with | some _ => v | none => undef) u ∧ AP grow j i u (match o.dst with | some _ => v | none => undef)) ∧
    VK E w0.heap.size (K i) (match o.dst with | some _ => v | none => undef) w'
section
variable {ops : Array Oper} {E : TypeId} {w0 w w' : World} {grow fin : Nat → Bool} {K : Nat → KV} {i : Nat} {o : Oper} {a : Act} {v : Value} {d : Tmp}
/-- it makes a new block -/
theorem KSt.new (hd : o.dst = some d) (h0 : Below w0.heap.size w0 w) (hb : Below w.heap.size w w') (hv : (K i).holds E w0.heap.size w' v)
    (hblk : ∀ b, blk v = some b → w.heap.size ≤ b ∧ b < w'.heap.size) : KSt ops E w0 grow fin K i o a w (a.put o.dst v) w' := by
  refine ⟨v, rfl, h0.trans (hb.mono h0.size), fun j u hu hvu hde => ?_, ?_⟩
  · rw [hd]
    have h1 : AP grow i j v u := fun _ b hb1 hb2 => by
      have := hvu.2 b hb2
      have := (hblk b hb1).1
      omega
    exact ⟨hvu.below hb, h1, h1.symm⟩
  · rw [hd]; exact ⟨hv, fun b hb1 => (hblk b hb1).2⟩
/-- it takes on what one operation left -/
theorem KSt.from {e : Edge} {oe : Oper} (hd : o.dst = some d) (h0 : Below w0.heap.size w0 w) (he : e ∈ o.after) (hbe : wantE .any e = true) (hoe : ops[e.on]? = some oe)
    (hblk : ∀ b, blk v = some b → blk (leftBy a oe) = some b) (hv : VK E w0.heap.size (K i) v w)
    (hg : grow i = false) (hu1 : usedB .any ops fin i e.on = false) : KSt ops E w0 grow fin K i o a w (a.put o.dst v) w := by
  refine ⟨v, rfl, h0, fun j u hu hvu hde => ?_, ?_⟩
  · rw [hd]
    have hj : e.on ≠ j := fun h => by rw [h, hu] at hu1; cases hu1
    have h1 : AP grow i j v u := fun hgg b hb1 hb2 => by
      have hgj : grow j = true := by rcases hgg with h | h; (rw [hg] at h; cases h); exact h
      exact (hde e he hbe hj oe hoe).1 (.inr hgj) b (hblk b hb1) hb2
    exact ⟨hvu, h1, h1.symm⟩
  · rw [hd]; exact hv
/-- it takes on what lay there ahead of the region -/
theorem KSt.old (hd : o.dst = some d) (h0 : Below w0.heap.size w0 w) (hv : VK E w0.heap.size (K i) v w) (hg : grow i = false)
    (hblk : ∀ b, blk v = some b → b < w0.heap.size) (hgr : ∀ j, grow j = true → ∃ l, K j = .own l) : KSt ops E w0 grow fin K i o a w (a.put o.dst v) w := by
  refine ⟨v, rfl, h0, fun j u hu hvu hde => ?_, ?_⟩
  · rw [hd]
    have h1 : AP grow i j v u := fun hgg b hb1 hb2 => by
      have hgj : grow j = true := by rcases hgg with h | h; (rw [hg] at h; cases h); exact h
      obtain ⟨l, hl⟩ := hgr j hgj
      have h2 := hvu.1
      rw [hl] at h2
      obtain ⟨a', cap, rfl, hown⟩ := h2
      rcases hown.form with ⟨rfl, _⟩ | ⟨g, rfl, hg1, _⟩
      · cases hb2
      · cases hb2
        have h5 : g < w0.heap.size := hblk _ hb1
        omega
    exact ⟨hvu, h1, h1.symm⟩
  · rw [hd]; exact hv
/-- what does not lie in the row's block stays -/
theorem RowN.keptBy {k : IntKind} {row : Option Nat} {cap : Nat} {l : List Nat} {w w' : World} {ad : Option Addr} (h : RowN k w ad cap l) (hg : w.grownBy w' row) (hr : ∀ x, ad = some x → row ≠ some x.block) : RowN k w' ad cap l := by
  obtain ⟨h1, h2, h3⟩ := h
  refine ⟨h1, h2, ?_⟩
  rcases h3 with h3 | ⟨b, off, rfl, hb', hc⟩
  · exact .inl h3
  · exact .inr ⟨b, off, rfl, Nat.lt_of_lt_of_le hb' hg.size, fun i hi => (World.cell?_of_block (a := ⟨b, off + i, none⟩) (hg.block b hb' (fun h => hr _ rfl h.symm))).trans (hc i hi)⟩
theorem VK.kept {B : Nat} {k : KV} {v : Value} {row : Option Nat} (h : VK E B k v w) (hg : w.grownBy w' row) (hr : ∀ b, blk v = some b → row ≠ some b) (hf : k.flat = true) : VK E B k v w' := by
  refine ⟨?_, fun b hv => Nat.lt_of_lt_of_le (h.2 b hv) hg.size⟩
  have h1 := h.1
  cases k with
  | sl l => obtain ⟨a, cap, rfl, h2⟩ := h1; exact ⟨a, cap, rfl, h2.keptBy hg fun x hx => hr _ (by subst hx; rfl)⟩
  | st l c e => obtain ⟨a, cap, rfl, h2⟩ := h1; exact ⟨a, cap, rfl, h2.keptBy hg fun x hx => hr _ (by subst hx; rfl)⟩
  | own l => obtain ⟨a, cap, rfl, h2⟩ := h1; exact ⟨a, cap, rfl, h2.kept hg fun g hx => hr _ (by subst hx; rfl)⟩
  | any => trivial
  | tab l => cases hf
/-- it appends to what another one left -/
theorem KSt.grows {e : Edge} {oe : Oper} {l m : List Nat} {ad a' : Option Addr} {cap cap' : Nat} (hd : o.dst = some d) (h0 : Below w0.heap.size w0 w) (he : e ∈ o.after) (hbe : wantE .any e = true) (hoe : ops[e.on]? = some oe)
    (hsrc : leftBy a oe = .slice ad l.length cap) (hge : grow e.on = true) (hu1 : usedB .any ops fin i e.on = false) (hnt : ∀ j, usedB .any ops fin i j = true → (K j).flat = true)
    (hown : OwnN E .u8 w' w0.heap.size a' cap' m) (hg : w.grownBy w' (Value.slice ad l.length cap).ownBlock) (hb : Below w0.heap.size w w')
    (hat : (Value.slice a' m.length cap').ownBlock = (Value.slice ad l.length cap).ownBlock ∨ (Value.slice a' m.length cap').ownBlock = some w.heap.size)
    (hv : (K i).holds E w0.heap.size w' (.slice a' m.length cap')) : KSt ops E w0 grow fin K i o a w (a.put o.dst (.slice a' m.length cap')) w' := by
  have hbo : ∀ (x : Option Addr) (n c : Nat), blk (.slice x n c) = (Value.slice x n c).ownBlock := fun x n c => by cases x <;> rfl
  refine ⟨_, rfl, h0.trans hb, fun j u hu hvu hde => ?_, ?_⟩
  · rw [hd]
    have hj : e.on ≠ j := fun h => by rw [h, hu] at hu1; cases hu1
    have hap := (hde e he hbe hj oe hoe).1 (.inl hge)
    rw [hsrc, hbo] at hap
    have h1 : AP grow i j (.slice a' m.length cap') u := fun _ b hb1 hb2 => by
      rw [hbo] at hb1
      rcases hat with h | h
      · exact hap b (h ▸ hb1) hb2
      · rw [h] at hb1; cases hb1
        have := hvu.2 _ hb2
        omega
    exact ⟨hvu.kept hg (fun b hb1 hb2 => hap b hb2 hb1) (hnt j hu), h1, h1.symm⟩
  · rw [hd]
    refine ⟨hv, fun b hb1 => ?_⟩
    rw [hbo] at hb1
    rcases hown.form with ⟨rfl, _⟩ | ⟨g, rfl, _, hg2⟩
    · cases hb1
    · cases hb1; exact hg2
end
theorem appNAt {P : Program} {T E : TypeId} {k : IntKind} {bytes : Nat} (et : ElemTy P T E k bytes) {w : World} {ops : Array Oper} {rest : List Oper} {o : Oper} {ac : Act} {Q : Exit → Act → World → Prop} (hgd : o.guard = none) (s x : Operand)
    (ho : o.op = .call { callee := .builtin .append, args := #[s, x], argTypes := #[T, T] }) {base : Nat} {a : Option Addr} {cap m c : Nat} {l ys : List Nat}
    (hs : ac.eval s = .slice a l.length cap) (hown : OwnN E k w base a cap l) {b : Option Addr} (hm : m = ys.length) (hx : ac.eval x = .slice b m c) (hy : RowN k w b c ys)
    (hb0 : 0 < ys.length) (hn : l.length + m ≤ 9223372036854775807) (hbytes : (l.length + m) * bytes ≤ 140737488355328) (hbase : base ≤ w.heap.size)
    (h : ∀ a' cap' w', OwnN E k w' base a' cap' (l ++ ys) → w.grownBy w' (Value.slice a l.length cap).ownBlock → Below base w w' → ((Value.slice a' (l.length + m) cap').ownBlock = (Value.slice a l.length cap).ownBlock ∨ (Value.slice a' (l.length + m) cap').ownBlock = some w.heap.size) → wpList P ops Q rest (ac.put o.dst (.slice a' (l.length + m) cap')) w') :
    wpList P ops Q (o :: rest) ac w := by
  subst hm
  obtain ⟨i, h2, h3, h4, h5⟩ := info_parts et.info
  obtain ⟨bb, off, rfl, _⟩ := hy.at hb0
  refine wpList_plain (by assumption) fun K hK' => ?_
  obtain ⟨v', w', hr, h6, h7, h8, h12⟩ := run_append_own_at (P := P) w base T o.type E i (.int k 0) 1 bytes et.und h2 h3 h4 h5 rfl (by decide) _ l.length _ hown ⟨bb, off, none⟩ ys.length c (ys.map fun (n : Nat) => Value.int k n) (by simp)
    (cells_of_rowN hy _ rfl) (by intro u hu; simp only [List.mem_map] at hu; obtain ⟨n, _, rfl⟩ := hu; rfl) (by simpa [maxLen] using hn) hbytes hbase
  have hv : ∃ a' cap', v' = .slice a' (l.length + ys.length) cap' := by
    rcases h6.2 with ⟨h9, h10⟩ | ⟨g, c', cur, h9, _⟩
    · exact ⟨none, 0, by rw [h9, h10]⟩
    · exact ⟨_, _, h9⟩
  obtain ⟨a', cap', rfl⟩ := hv
  have hown' : OwnN E k w' base a' cap' (l ++ ys) := by
    unfold OwnN; rw [List.length_append, List.map_append]; exact h6
  have hbel : Below base w w' := Below.of_grown h7 hbase (by
    intro g hg
    exact (World.ownsRow.lt hown g hg).1)
  unfold Oper.wp
  simp [execOp, ho, resolve, invoke, builtin, hs, hx, hr, Result.andThen]
  exact hK' _ _ (h a' cap' w' hown' h7 hbel h12)
end Go.Proofs.Ytfpoannjeplhgaa
