/- inflate: a stream; must, bits, put, repeat: contracts. -/
import Derived.Test.YtlofoocgiomfbaaGet
import Derived.Maps.AppendAt
import Derived.WalkLawsBesides
namespace Go.Proofs.Ytlofoocgiomfbaa
open Go.RowKit Go.Shelf M01 M10
set_option linter.unusedVariables false

/-- ErrForm, thrown -/
def formP : List PanicEntry := [{ v := .iface 24 (.int .i64 2), recovered := false }]
/-- a stream: P holds of the blocks that it may write -/
def Strm (P : Nat → Prop) (w : World) (sp rp : Nat) (bs : List Nat) (keep at_ : Nat) (out : List Nat) : Prop :=
  ∃ oa oc, w.heap[sp]? = some (.cells #[.pointer (some ⟨rp, 0, none⟩), .slice oa (out.take keep).length oc, .int .i64 (keep : Nat), .int .i64 (out.length : Nat)] 77 (0, 0)) ∧
    OwnN 5 .u8 w 0 oa oc (out.take keep) ∧ Rd w rp bs at_ ∧ P sp ∧ P rp ∧ rp < sp ∧ (∀ g, oa = some ⟨g, 0, none⟩ → P g ∧ sp < g) ∧ (∀ b, w.heap.size ≤ b → P b) ∧ out.length ≤ 258 * at_ ∧ keep ≤ 1000000000

theorem must_int_ok (v : Value) (w : World) : Calls Try.prog 64 #[v, .int .i64 0] w fun e w' => e = .returned v ∧ w' = w := by
  go_enter Try.func64, Try.ntmps64
  go_wp2
  go_ret
  exact ⟨rfl, rfl⟩
theorem must_int_no (v : Value) (c : Nat) (hc : 0 < c) (w : World) : Calls Try.prog 64 #[v, .int .i64 (c : Nat)] w fun e w' => e = .panicked formP ∧ w' = w := by
  have t1 : ((c : Int) == 0) = false := by simp; omega
  go_enter Try.func64, Try.ntmps64
  go_wp2
  exact ⟨rfl, rfl, rfl⟩
theorem must_u32_ok (v : Value) (w : World) : Calls Try.prog 65 #[v, .int .i64 0] w fun e w' => e = .returned v ∧ w' = w := by
  go_enter Try.func65, Try.ntmps65
  go_wp2
  go_ret
  exact ⟨rfl, rfl⟩
theorem must_u32_no (v : Value) (c : Nat) (hc : 0 < c) (w : World) : Calls Try.prog 65 #[v, .int .i64 (c : Nat)] w fun e w' => e = .panicked formP ∧ w' = w := by
  have t1 : ((c : Int) == 0) = false := by simp; omega
  go_enter Try.func65, Try.ntmps65
  go_wp2
  exact ⟨rfl, rfl, rfl⟩
theorem must_tab_ok (v : Value) (w : World) : Calls Try.prog 84 #[v, .int .i64 0] w fun e w' => e = .returned v ∧ w' = w := by
  go_enter Try.func84, Try.ntmps84
  go_wp2
  go_ret
  exact ⟨rfl, rfl⟩
theorem must_tab_no (v : Value) (c : Nat) (hc : 0 < c) (w : World) : Calls Try.prog 84 #[v, .int .i64 (c : Nat)] w fun e w' => e = .panicked formP ∧ w' = w := by
  have t1 : ((c : Int) == 0) = false := by simp; omega
  go_enter Try.func84, Try.ntmps84
  go_wp2
  exact ⟨rfl, rfl, rfl⟩
theorem hmust_u32_ok (v : Value) (w : World) : Calls Try.prog 90 #[v, .int .i64 0] w fun e w' => e = .returned v ∧ w' = w := by
  go_enter Try.func90, Try.ntmps90
  go_wp2
  go_ret
  exact ⟨rfl, rfl⟩
theorem hmust_u32_no (v : Value) (c : Nat) (hc : 0 < c) (w : World) : Calls Try.prog 90 #[v, .int .i64 (c : Nat)] w fun e w' => e = .panicked formP ∧ w' = w := by
  have t1 : ((c : Int) == 0) = false := by simp; omega
  go_enter Try.func90, Try.ntmps90
  go_wp2
  exact ⟨rfl, rfl, rfl⟩
theorem hmust_int_ok (v : Value) (w : World) : Calls Try.prog 92 #[v, .int .i64 0] w fun e w' => e = .returned v ∧ w' = w := by
  go_enter Try.func92, Try.ntmps92
  go_wp2
  go_ret
  exact ⟨rfl, rfl⟩
theorem hmust_int_no (v : Value) (c : Nat) (hc : 0 < c) (w : World) : Calls Try.prog 92 #[v, .int .i64 (c : Nat)] w fun e w' => e = .panicked formP ∧ w' = w := by
  have t1 : ((c : Int) == 0) = false := by simp; omega
  go_enter Try.func92, Try.ntmps92
  go_wp2
  exact ⟨rfl, rfl, rfl⟩
theorem hmust_row_ok (v : Value) (w : World) : Calls Try.prog 94 #[v, .int .i64 0] w fun e w' => e = .returned v ∧ w' = w := by
  go_enter Try.func94, Try.ntmps94
  go_wp2
  go_ret
  exact ⟨rfl, rfl⟩
theorem hmust_row_no (v : Value) (c : Nat) (hc : 0 < c) (w : World) : Calls Try.prog 94 #[v, .int .i64 (c : Nat)] w fun e w' => e = .panicked formP ∧ w' = w := by
  have t1 : ((c : Int) == 0) = false := by simp; omega
  go_enter Try.func94, Try.ntmps94
  go_wp2
  exact ⟨rfl, rfl, rfl⟩

theorem app1AtN {P : Program} {T E : TypeId} {k : IntKind} {bytes : Nat} (et : ElemTy P T E k bytes) {w : World} {ops : Array Oper} {rest : List Oper} {o : Oper} {ac : Act} {Q : Exit → Act → World → Prop} (hgd : o.guard = none) (s x : Operand)
    (ho : o.op = .call { callee := .builtin .append, args := #[s, x], argTypes := #[T, T] }) {base : Nat} {a : Option Addr} {cap : Nat} {l : List Nat} {y : Nat} {c E' : Nat}
    (hs : ac.eval s = .slice a l.length cap) (hown : OwnN E k w base a cap l) (hx : ac.eval x = .slice (some ⟨w.heap.size, 0, none⟩) 1 c) (hc : 1 ≤ c) (hc' : c ≤ 9223372036854775807)
    (hn : l.length + 1 ≤ 9223372036854775807) (hbytes : (l.length + 1) * bytes ≤ 140737488355328) (hbase : base ≤ w.heap.size)
    (h : ∀ a' cap' w', OwnN E k w' base a' cap' (l ++ [y]) → w.grownBy w' (Value.slice a l.length cap).ownBlock → (∀ g, a' = some ⟨g, 0, none⟩ → a = some ⟨g, 0, none⟩ ∨ w.heap.size ≤ g) → wpList P ops Q rest (ac.put o.dst (.slice a' (l.length + 1) cap')) w') :
    wpList P ops Q (o :: rest) ac (w.alloc (.cells #[.int k y] E')) := by
  obtain ⟨i, h2, h3, h4, h5⟩ := info_parts et.info
  refine wpList_plain hgd fun K hK' => ?_
  have hy : RowN k (w.alloc (.cells #[.int k y] E')) (some ⟨w.heap.size, 0, none⟩) c [y] := by
    refine ⟨by simpa using hc, ⟨hc', fun hn => by cases hn⟩, .inr ⟨w.heap.size, 0, rfl, by simp, fun i hi => ?_⟩⟩
    obtain rfl : i = 0 := by simp at hi; omega
    simp [World.cell?_alloc_at]
  obtain ⟨v', w', hr, h6, h7, h8, h9⟩ := run_append_own_at (P := P) (w.alloc (.cells #[.int k y] E')) base T o.type E i (.int k 0) 1 bytes et.und h2 h3 h4 h5 rfl (by decide) _ l.length _ (hown.alloc (.cells #[.int k y] E')) ⟨w.heap.size, 0, none⟩ 1 c ([y].map fun (n : Nat) => Value.int k n) (by simp)
    (cells_of_rowN hy _ rfl) (by intro u hu; simp only [List.mem_map] at hu; obtain ⟨n, _, rfl⟩ := hu; rfl) (by simpa [maxLen] using hn) hbytes (by simp; omega)
  have hv : ∃ a' cap', v' = .slice a' (l.length + 1) cap' := by
    rcases h6.2 with ⟨h9, h10⟩ | ⟨g, c', cur, h9, _⟩
    · exact ⟨none, 0, by rw [h9, h10]⟩
    · exact ⟨_, _, h9⟩
  obtain ⟨a', cap', rfl⟩ := hv
  have hown' : OwnN E k w' base a' cap' (l ++ [y]) := by
    unfold OwnN; rw [List.length_append, List.map_append]; exact h6
  unfold Oper.wp
  simp [execOp, ho, resolve, invoke, builtin, hs, hx, hr, Result.andThen]
  refine hK' _ _ (h a' cap' w' hown' ⟨h7.os, h7.tape, h7.output, Nat.le_trans (by simp) h7.size, fun q hq hr => (h7.block q (by simp; omega) hr).trans (Below.heap_alloc _ _ _ hq)⟩ ?_)
  rintro g rfl
  rcases h9 with h9 | h9
  · left
    rcases hown.form with ⟨rfl, _, _⟩ | ⟨g', rfl, _⟩
    · simp [Value.ownBlock] at h9
    · simp [Value.ownBlock] at h9
      rw [h9]
  · right
    simp [Value.ownBlock] at h9
    omega

theorem Rd.only {T : Nat → Prop} {w w' : World} {p at_ : Nat} {bs : List Nat} (h : Rd w p bs at_) (ho : Only T w w') (hT : ∀ b, b ≤ p → ¬ T b) : Rd w' p bs at_ := by
  have hlt := h.lt
  obtain ⟨a, cap, h1, h2, h3, h4, h5, h6⟩ := h
  exact ⟨a, cap, (ho.block p hlt (hT p (Nat.le_refl _))).trans h1, h2.same ho.size (fun x _ hx => ho.block _ (by have := h6 x hx; omega) (hT _ (by have := h6 x hx; omega))), h3, h4, h5, h6⟩
theorem Strm.lt {P : Nat → Prop} {w : World} {sp rp keep at_ : Nat} {bs out : List Nat} (h : Strm P w sp rp bs keep at_ out) : sp < w.heap.size := by
  obtain ⟨oa, oc, h1, _⟩ := h
  exact (Array.getElem?_eq_some_iff.1 h1).1
theorem four_cells {w : World} {b : Nat} {x y z u : Value} {t : TypeId} (h : w.heap[b]? = some (.cells #[x, y, z, u] t (0, 0))) : w.cell? ⟨b, 0, none⟩ = some x ∧ w.cell? ⟨b, 1, none⟩ = some y ∧ w.cell? ⟨b, 2, none⟩ = some z ∧ w.cell? ⟨b, 3, none⟩ = some u ∧ w.frozen? ⟨b, 1, none⟩ = false ∧ w.frozen? ⟨b, 3, none⟩ = false := by
  simp [World.cell?, World.frozen?, h]

/-- the reader moved, nothing else -/
theorem Strm.moved {P : Nat → Prop} {w w' : World} {sp rp keep at_ at2 : Nat} {bs out : List Nat} (h : Strm P w sp rp bs keep at_ out) (ho : Only (fun b => b = rp) w w') (hr : Rd w' rp bs at2) (ha : at_ ≤ at2) : Only P w w' ∧ Strm P w' sp rp bs keep at2 out := by
  obtain ⟨oa, oc, h1, h2, h3, h4, h5, h6, h7, h8, h9, h10⟩ := h
  exact ⟨ho.mono (fun k _ e => by subst e; exact h5), oa, oc, box_only h1 ho (by show sp ≠ rp; omega), h2.kept (row := some rp) ⟨ho.os, ho.tape, ho.output, ho.size, fun k hk he => ho.block k hk (fun e => he (by rw [e]))⟩ (fun g hg e => by cases e; have := (h7 _ hg).2; omega), hr, h4, h5, h6, h7, fun b hb => h8 b (Nat.le_trans ho.size hb), by omega, h10⟩
theorem Strm.rd {P : Nat → Prop} {w : World} {sp rp keep at_ : Nat} {bs out : List Nat} (h : Strm P w sp rp bs keep at_ out) : Rd w rp bs at_ := by
  obtain ⟨oa, oc, h1, h2, h3, _⟩ := h
  exact h3
theorem Strm.cells {P : Nat → Prop} {w : World} {sp rp keep at_ : Nat} {bs out : List Nat} (h : Strm P w sp rp bs keep at_ out) : w.cell? ⟨sp, 0, none⟩ = some (.pointer (some ⟨rp, 0, none⟩)) ∧ w.cell? ⟨sp, 2, none⟩ = some (.int .i64 (keep : Nat)) ∧ w.cell? ⟨sp, 3, none⟩ = some (.int .i64 (out.length : Nat)) := by
  obtain ⟨oa, oc, h1, _⟩ := h
  obtain ⟨c0, c1, c2, c3, _, _⟩ := four_cells h1
  exact ⟨c0, c2, c3⟩

set_option maxRecDepth 100000 in
theorem strm_bits_ok {P : Nat → Prop} {w : World} {sp rp keep at_ : Nat} {bs out : List Nat} (h : Strm P w sp rp bs keep at_ out) (n : Nat) (hn : n ≤ 32) (hle : at_ + n ≤ 8 * bs.length) :
    Calls Try.prog 40 #[.pointer (some ⟨sp, 0, none⟩), .int .i64 (n : Nat)] w fun e w' => e = .returned (.int .i64 (num bs at_ n : Nat)) ∧ Only P w w' ∧ Strm P w' sp rp bs keep (at_ + n) out := by
  obtain ⟨c0, c2, c3⟩ := h.cells
  have HG := Lib.hid (lsb_get w rp bs at_ n hn h.rd hle)
  have H := Lib.hid h
  have hnl := num_lt bs at_ n
  have hnl2 : num bs at_ n < 4294967296 := Nat.lt_of_lt_of_le hnl (Nat.le_trans (Nat.pow_le_pow_right (by decide) hn) (by decide))
  clear h hle hnl
  generalize num bs at_ n = v at *
  go_enter Try.func40, Try.ntmps40
  go_wp2_with fail
  refine HG.out.mono ?_
  rintro e w1 ⟨rfl, hr, ho⟩
  have K := Lib.hid (H.out.moved ho hr (by omega))
  clear H HG hr ho
  go_wp2_with fail
  refine (must_u32_ok (.int .u32 (v : Nat)) w1).mono ?_
  rintro e w2 ⟨rfl, rfl⟩
  go_wp2
  go_ret
  exact ⟨rfl, K.out⟩
set_option maxRecDepth 100000 in
theorem strm_bits_no {P : Nat → Prop} {w : World} {sp rp keep at_ : Nat} {bs out : List Nat} (h : Strm P w sp rp bs keep at_ out) (n : Nat) (hn : n ≤ 32) (hle : 8 * bs.length < at_ + n) :
    Calls Try.prog 40 #[.pointer (some ⟨sp, 0, none⟩), .int .i64 (n : Nat)] w fun e w' => e = .panicked formP ∧ Only P w w' := by
  obtain ⟨c0, c2, c3⟩ := h.cells
  have HG := Lib.hid (lsb_get_no w rp bs at_ n hn h.rd hle)
  clear h hle
  go_enter Try.func40, Try.ntmps40
  go_wp2_with fail
  refine HG.out.mono ?_
  rintro e w1 ⟨rfl, q, rfl⟩
  clear HG
  go_wp2_with fail
  refine (must_u32_no (.int .u32 0) 2 (by decide) _).mono ?_
  rintro e w2 ⟨rfl, rfl⟩
  exact ⟨rfl, rfl, only_drewN _ _ _⟩

theorem four_set {w : World} {b : Nat} {x y z u v : Value} {t : TypeId} (h : w.heap[b]? = some (.cells #[x, y, z, u] t (0, 0))) :
    (w.setCell ⟨b, 1, none⟩ v).heap[b]? = some (.cells #[x, v, z, u] t (0, 0)) ∧ (w.setCell ⟨b, 3, none⟩ v).heap[b]? = some (.cells #[x, y, z, v] t (0, 0)) := by
  constructor
  · show (w.heap.modify b _)[b]? = _
    rw [Array.getElem?_modify, if_pos rfl, h]; rfl
  · show (w.heap.modify b _)[b]? = _
    rw [Array.getElem?_modify, if_pos rfl, h]; rfl
theorem own_ne {E : TypeId} {k : IntKind} {w : World} {base cap n sp : Nat} {a : Option Addr} {l : List Nat} (h : OwnN E k w base a cap l) (h7 : ∀ g, a = some ⟨g, 0, none⟩ → sp < g) (b : Nat) (hb : b ≤ sp) : some b ≠ (Value.slice a n cap).ownBlock := by
  rcases h.form with ⟨rfl, _, _⟩ | ⟨g, rfl, _⟩
  · simp [Value.ownBlock]
  · have := h7 g rfl
    simp [Value.ownBlock]
    omega
theorem put_end {P : Nat → Prop} {w w2 : World} {sp rp keep at_ : Nat} {bs out : List Nat} {oa a' : Option Addr} {oc c' : Nat} (c : Nat)
    (h1 : w.heap[sp]? = some (.cells #[.pointer (some ⟨rp, 0, none⟩), .slice oa out.length oc, .int .i64 (keep : Nat), .int .i64 (out.length : Nat)] 77 (0, 0)))
    (h2 : OwnN 5 .u8 w 0 oa oc out) (h3 : Rd w rp bs at_) (h4 : P sp ∧ P rp ∧ rp < sp) (h7 : ∀ g, oa = some ⟨g, 0, none⟩ → P g ∧ sp < g) (h8 : ∀ b, w.heap.size ≤ b → P b)
    (hk : out.length < keep) (hl : out.length + 1 ≤ 258 * at_) (h10 : keep ≤ 1000000000) (hown : OwnN 5 .u8 w2 0 a' c' (out ++ [c])) (hg : w.grownBy w2 (Value.slice oa out.length oc).ownBlock)
    (hnew : ∀ g, a' = some ⟨g, 0, none⟩ → oa = some ⟨g, 0, none⟩ ∨ w.heap.size ≤ g) :
    Only P w ((w2.setCell ⟨sp, 1, none⟩ (.slice a' (out.length + 1) c')).setCell ⟨sp, 3, none⟩ (.int .i64 ((out.length : Int) + 1))) ∧ Strm P ((w2.setCell ⟨sp, 1, none⟩ (.slice a' (out.length + 1) c')).setCell ⟨sp, 3, none⟩ (.int .i64 ((out.length : Int) + 1))) sp rp bs keep at_ (out ++ [c]) := by
  have hlt : sp < w.heap.size := (Array.getElem?_eq_some_iff.1 h1).1
  have hX : w2.heap[sp]? = _ := (hg.block sp hlt (own_ne h2 (fun g e => (h7 g e).2) sp (Nat.le_refl _))).trans h1
  have ho2 : Only P w w2 := (Only.refl P w).grown hg (fun r hr => by
    rcases h2.form with ⟨rfl, _, _⟩ | ⟨g, rfl, _⟩
    · simp [Value.ownBlock] at hr
    · simp [Value.ownBlock] at hr
      subst hr
      exact .inl (h7 _ rfl).1)
  have hO : Only P w ((w2.setCell ⟨sp, 1, none⟩ (.slice a' (out.length + 1) c')).setCell ⟨sp, 3, none⟩ (.int .i64 ((out.length : Int) + 1))) := (ho2.setCell (.inl h4.1) _).setCell (.inl h4.1) _
  refine ⟨hO, a', c', ?_, ?_, ?_, h4.1, h4.2.1, h4.2.2, fun g e => ?_, fun b hb => h8 b (Nat.le_trans hO.size hb), by simpa using hl, h10⟩
  · rw [(four_set (four_set hX).1).2, List.take_of_length_le (by simp; omega)]
    simp
  · rw [List.take_of_length_le (by simp; omega)]
    have hne : ∀ g, a' = some ⟨g, 0, none⟩ → sp ≠ g := fun g e => by
      rcases hnew g e with h | h
      · have := (h7 g h).2; omega
      · omega
    exact (hown.other hne _).other hne _
  · have hrd2 : Rd w2 rp bs at_ := by
      obtain ⟨a, cap, g1, g2, g3, g4, g5, g6⟩ := h3
      have hb : ∀ b, b < w.heap.size → b ≤ sp → w2.heap[b]? = w.heap[b]? := fun b hb hs => hg.block b hb (own_ne h2 (fun g e => (h7 g e).2) b hs)
      exact ⟨a, cap, (hb rp (by omega) (by omega)).trans g1, g2.same hg.size (fun x _ hx => hb _ (by have := g6 x hx; omega) (by have := g6 x hx; omega)), g3, g4, g5, g6⟩
    exact hrd2.only (((Only.refl (fun b => b = sp) w2).setCell (p := ⟨sp, 1, none⟩) (.inl rfl) _).setCell (p := ⟨sp, 3, none⟩) (.inl rfl) _) (fun b hb e => by omega)
  · rcases hnew g e with h | h
    · exact h7 g h
    · exact ⟨h8 g h, by omega⟩
theorem put_end2 {P : Nat → Prop} {w : World} {sp rp keep at_ : Nat} {bs out : List Nat} (c : Nat) (h : Strm P w sp rp bs keep at_ out) (hk : ¬ out.length < keep) (hl : out.length + 1 ≤ 258 * at_) :
    Only P w (w.setCell ⟨sp, 3, none⟩ (.int .i64 ((out.length : Int) + 1))) ∧ Strm P (w.setCell ⟨sp, 3, none⟩ (.int .i64 ((out.length : Int) + 1))) sp rp bs keep at_ (out ++ [c]) := by
  have hlt := h.lt
  obtain ⟨oa, oc, h1, h2, h3, h4, h5, h6, h7, h8, h9, h10⟩ := h
  have hO : Only P w (w.setCell ⟨sp, 3, none⟩ (.int .i64 ((out.length : Int) + 1))) := (Only.refl P w).setCell (.inl h4) _
  have htk : (out ++ [c]).take keep = out.take keep := List.take_append_of_le_length (by omega)
  refine ⟨hO, oa, oc, ?_, ?_, ?_, h4, h5, h6, h7, fun b hb => h8 b (Nat.le_trans hO.size hb), by simpa using hl, h10⟩
  · rw [(four_set h1).2, htk]
    simp
  · rw [htk]
    exact h2.other (fun g e => by have := (h7 g e).2; show sp ≠ g; omega) _
  · exact h3.only ((Only.refl (fun b => b = sp) w).setCell (p := ⟨sp, 3, none⟩) (.inl rfl) _) (fun b hb e => by omega)

set_option maxRecDepth 100000 in
theorem strm_put {P : Nat → Prop} {w : World} {sp rp keep at_ : Nat} {bs out : List Nat} (h : Strm P w sp rp bs keep at_ out) (c : Nat) (hl : out.length + 1 ≤ 258 * at_) :
    Calls Try.prog 60 #[.pointer (some ⟨sp, 0, none⟩), .int .u8 (c : Nat)] w fun e w' => e = .returned (.tuple #[]) ∧ Only P w w' ∧ Strm P w' sp rp bs keep at_ (out ++ [c]) := by
  obtain ⟨oa, oc, h1, h2, h3, h4, h5, h6, h7, h8, h9, h10⟩ := h
  obtain ⟨c0, c1, c2, c3, d1, d3⟩ := four_cells h1
  have hat : at_ ≤ 800000000 := by obtain ⟨_, _, _, _, _, hl, ha, _⟩ := h3; omega
  have hsz : out.length ≤ 300000000000 := by omega
  by_cases hk : out.length < keep
  · have t1 : decide ((out.length : Int) < (keep : Int)) = true := by simp; omega
    have htk : out.take keep = out := List.take_of_length_le (by omega)
    rw [htk] at h1 h2 c1
    have hb2 : out.length < (8 : Nat) * 100000000000 := by omega
    have H1 := Lib.hid h1
    have H2 := Lib.hid h2
    have H3 := Lib.hid h3
    have H4 := Lib.hid (show P sp ∧ P rp ∧ rp < sp from ⟨h4, h5, h6⟩)
    have H7 := Lib.hid h7
    have H8 := Lib.hid h8
    have hlt : sp < w.heap.size := (Array.getElem?_eq_some_iff.1 h1).1
    clear h1 h2 h3 h4 h5 h6 h7 h8 h9
    go_enter Try.func60, Try.ntmps60
    go_wp2_with fail
    go_quiet (fail)
    go_wp2_with (at_builtin; refine app1AtN et_u8 rfl (.tmp 17) (.tmp 19) rfl (base := 0) rfl (show OwnN _ _ (w.drewN nq) 0 oa oc out from H2.out) rfl (Nat.le_refl _) (by omega) (by omega) (by omega) (Nat.zero_le _) ?_; intro a' c' w2 hown hg hnew; have hX := four_cells ((hg.block sp hlt (own_ne H2.out (fun g e => (H7.out g e).2) sp (Nat.le_refl _))).trans H1.out); obtain ⟨_, _, _, e3, k1, k3⟩ := hX; replace hown := Lib.hid hown; replace hg := Lib.hid hg; replace hnew := Lib.hid hnew)
    go_end0
    exact ⟨rfl, put_end c H1.out H2.out H3.out H4.out H7.out H8.out hk hl h10 hown.out ⟨hg.out.os, hg.out.tape, hg.out.output, hg.out.size, hg.out.block⟩ hnew.out⟩
  · have t1 : decide ((out.length : Int) < (keep : Int)) = false := by simp; omega
    have H := Lib.hid (fun q => put_end2 c (show Strm P (w.drewN q) sp rp bs keep at_ out from ⟨oa, oc, h1, h2, h3, h4, h5, h6, h7, h8, h9, h10⟩) hk hl)
    clear h1 h2 h3 h4 h5 h6 h7 h8 h9
    go_enter Try.func60, Try.ntmps60
    go_wp2_with fail
    go_quiet (fail)
    go_wp2_with fail
    go_end0
    exact ⟨rfl, (only_drewN _ _ _).trans (H.out _).1, (H.out _).2⟩
end Go.Proofs.Ytlofoocgiomfbaa
