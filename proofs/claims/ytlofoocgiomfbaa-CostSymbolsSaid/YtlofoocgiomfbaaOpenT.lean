/- Slices of tokens that came in, as lists. -/
import Derived.Test.YtlofoocgiomfbaaChecked
import Derived.Test.YtlofoocgiomfbaaOpen
import Derived.Test.YtlofoocgiomfbaaRef08
import Derived.Deep.Slices
import Derived.Deep.Strs
import Derived.ProofKit
namespace Go.Proofs.Ytlofoocgiomfbaa
open Go.RowKit Go.Deep M17
set_option linter.unusedVariables false

theorem tok_at {H : Type} {enc : TypeId × Value → H} {W : World} {n : Nat} {cs : List Value} {x : DataW H × List MemPlace} (h : DataW.trod enc Try.prog W 0 (fun _ => true) true n 28 cs = some x) (hl : cs.length = 3) :
    ∃ t : Tok, cs = [.int .i64 t.len, .int .i64 t.dist, .int .u8 (t.byte : Nat)] ∧ t.byte < 256 := by
  have c3 : Try.prog.cellsOf 3 = 1 := by kernel_rfl
  have c5 : Try.prog.cellsOf 5 = 1 := by kernel_rfl
  obtain ⟨v0, v1, v2, rfl⟩ : ∃ v0 v1 v2, cs = [v0, v1, v2] := by
    cases cs with
    | nil => cases hl
    | cons v0 cs => cases cs with
      | nil => cases hl
      | cons v1 cs => cases cs with
        | nil => cases hl
        | cons v2 cs => cases cs with
          | nil => exact ⟨_, _, _, rfl⟩
          | cons v3 cs => simp at hl
  obtain ⟨y0, y1, y2, k, _, _, g0, g1, g2⟩ := trod_struct3 Try.underlying28 h
  simp only [c3, c5, List.drop_zero, List.drop_succ_cons, List.take_succ_cons, List.take_zero] at g0 g1 g2
  obtain ⟨a, ha, _, _⟩ := DataW.trod_int Try.underlying3 g0
  obtain ⟨b, hb, _, _⟩ := DataW.trod_int Try.underlying3 g1
  obtain ⟨c, hc, _, hw⟩ := DataW.trod_int Try.underlying5 g2
  simp only [List.cons.injEq, and_true] at ha hb hc
  subst ha hb hc
  obtain ⟨h1, h2⟩ := bd_u8 hw
  refine ⟨⟨a, b, c.toNat⟩, ?_, by show c.toNat < 256; omega⟩
  simp only [Int.toNat_of_nonneg h1]

instance : Inhabited Tok := ⟨⟨0, 0, 0⟩⟩
theorem toks_open {H : Type} {enc : TypeId × Value → H} {W : World} {a : Option Addr} {len cap : Nat} {d : DataW H} {p : List MemPlace} (h : ∃ fuel, DataW.trod enc Try.prog W 0 (fun _ => true) true fuel 22 (Value.slice a len cap).cells.toList = some (d, p)) :
    ∃ l : List Tok, l.length = len ∧ RowS encT W a cap l ∧ ∀ t ∈ l, t.byte < 256 := by
  obtain ⟨fuel, h⟩ := h
  have c28 : Try.prog.cellsOf 28 = 3 := by kernel_rfl
  rcases open_slice Try.underlying22 h with ⟨hcs, _⟩ | ⟨x, l, c, m, n, D, Pl, hcs, _, hl, hm, hmm, _, hx⟩
  · simp [Value.cells] at hcs
    obtain ⟨rfl, rfl, rfl⟩ := hcs
    exact ⟨[], rfl, RowS.nil _ _, by simp⟩
  · simp [Value.cells] at hcs
    obtain ⟨rfl, rfl, rfl⟩ := hcs
    simp only [if_true] at hmm
    subst hmm
    rw [c28] at hx
    have each : ∀ i, i < m → ∃ t : Tok, (W.cell? (x.add (i * 3)) = some (.int .i64 t.len) ∧ W.cell? (x.add (i * 3 + 1)) = some (.int .i64 t.dist) ∧ W.cell? (x.add (i * 3 + 2)) = some (.int .u8 (t.byte : Nat))) ∧ t.byte < 256 := by
      intro i hi
      obtain ⟨cs', h1, h2⟩ := hx i hi
      obtain ⟨_, hlen, hcell⟩ := World.cells?_some h1
      obtain ⟨t, rfl, ht⟩ := tok_at h2 hlen
      have e0 := hcell 0 (by omega)
      have e1 := hcell 1 (by omega)
      have e2 := hcell 2 (by omega)
      rw [add_add] at e0 e1 e2
      exact ⟨t, ⟨by simpa using e0, by simpa using e1, by simpa using e2⟩, ht⟩
    obtain ⟨q, hq⟩ := choose_lt each
    have hlist : ∀ i (hi : i < ((List.range len).map q).length), ((List.range len).map q)[i] = q i := by intro i hi; simp
    refine ⟨(List.range len).map q, by simp, ⟨by simpa using hl, ⟨by simpa [maxLen] using hm, fun hn => by cases hn⟩, ?_⟩, ?_⟩
    · by_cases h0 : len = 0
      · subst h0; exact .inl rfl
      · have e := (hq 0 (by omega)).1.1
        simp only [Nat.zero_mul, Addr.add, if_true] at e
        obtain ⟨hs, hb⟩ := spot_none e
        have hxf : ∀ k, x.add k = ⟨x.block, x.off + k, none⟩ := by
          intro k
          unfold Addr.add
          split
          · rename_i hk; cases x; simp_all
          · cases x; simp_all
        refine .inr ⟨x.block, x.off, by cases x; simp_all, hb, fun i v hv => ?_⟩
        have hi : i < len * 3 := by
          have := (List.getElem?_eq_some_iff.1 hv).1
          rw [flat_length] at this
          simpa [encT] using this
        have hdm : i = i / 3 * 3 + i % 3 := by omega
        have hi3 : i / 3 < len := by omega
        have hf := flat_at (c := encT) ((List.range len).map q) (i / 3) (i % 3) (by simpa using hi3) (by show i % 3 < 3; omega)
        have hf' : (flat encT ((List.range len).map q))[i]? = (encT.cells (q (i / 3)))[i % 3]? := by
          rw [hlist] at hf
          have : i / 3 * encT.sz + i % 3 = i := by show i / 3 * 3 + i % 3 = i; omega
          rw [this] at hf
          exact hf
        rw [hf'] at hv
        obtain ⟨⟨q0, q1, q2⟩, _⟩ := hq (i / 3) (by omega)
        rw [hxf] at q0 q1 q2
        have hr : i % 3 = 0 ∨ i % 3 = 1 ∨ i % 3 = 2 := by omega
        rcases hr with hr | hr | hr
        · rw [hr] at hv
          have : v = .int .i64 (q (i / 3)).len := by simpa [encT] using hv.symm
          rw [this]
          exact (congrArg (fun k => W.cell? ⟨x.block, k, none⟩) (show x.off + i = x.off + i / 3 * 3 by omega)).trans q0
        · rw [hr] at hv
          have : v = .int .i64 (q (i / 3)).dist := by simpa [encT] using hv.symm
          rw [this]
          exact (congrArg (fun k => W.cell? ⟨x.block, k, none⟩) (show x.off + i = x.off + (i / 3 * 3 + 1) by omega)).trans q1
        · rw [hr] at hv
          have : v = .int .u8 ((q (i / 3)).byte : Nat) := by simpa [encT] using hv.symm
          rw [this]
          exact (congrArg (fun k => W.cell? ⟨x.block, k, none⟩) (show x.off + i = x.off + (i / 3 * 3 + 2) by omega)).trans q2
    · intro t ht
      obtain ⟨i, hi, rfl⟩ := List.mem_map.1 ht
      exact (hq i (by have := List.mem_range.1 hi; omega)).2
end Go.Proofs.Ytlofoocgiomfbaa
