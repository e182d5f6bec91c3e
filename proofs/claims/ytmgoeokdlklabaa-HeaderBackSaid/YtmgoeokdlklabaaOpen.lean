/- Slices of numbers that came in, as lists. -/
import Derived.Test.YtmgoeokdlklabaaBase
namespace Go.Proofs.Ytmgoeokdlklabaa
open Go.RowKit
set_option linter.unusedVariables false

theorem spot_none {w : World} {x : Addr} {v : Value} (h : w.cell? x = some v) : x.spot = none ∧ x.block < w.heap.size := by
  unfold World.cell? at h
  cases ho : w.heap[x.block]? with
  | none => simp [ho] at h
  | some o =>
    refine ⟨?_, (Array.getElem?_eq_some_iff.1 ho).1⟩
    rw [ho] at h
    cases o <;> simp at h
    exact h.1
theorem rowI_open {k : IntKind} {w : World} {a : Option Addr} {len cap : Nat} {zs : List Int}
    (h : (a = none ∧ len = 0 ∧ cap = 0 ∧ zs = []) ∨ ∃ x, a = some x ∧ len ≤ cap ∧ cap ≤ maxLen ∧ zs.length = cap ∧ (∀ i, i < zs.length → w.cell? (x.add i) = some (.int k (zs.getD i 0))) ∧ ∀ n ∈ zs, (Lit.int k n).wf = true) :
    ∃ l : List Int, l.length = len ∧ RowI k w a cap l ∧ ∀ n ∈ l, (Lit.int k n).wf = true := by
  rcases h with ⟨rfl, rfl, rfl, rfl⟩ | ⟨x, rfl, hl, hm, hz, hc, hw⟩
  · exact ⟨[], rfl, RowI.nil k w, by simp⟩
  · refine ⟨zs.take len, by simp; omega, ⟨by simp; omega, ⟨by simpa [maxLen] using hm, fun hn => by cases hn⟩, ?_⟩, fun n hn => hw n (List.mem_of_mem_take hn)⟩
    by_cases h0 : zs.take len = []
    · exact .inl h0
    · have hp : 0 < (zs.take len).length := List.length_pos_iff.2 h0
      simp only [List.length_take] at hp
      have h1 := hc 0 (by omega)
      simp only [Addr.add, if_true] at h1
      obtain ⟨hs, hb⟩ := spot_none h1
      refine .inr ⟨x.block, x.off, by cases x; simp_all, hb, fun i hi => ?_⟩
      simp only [List.length_take] at hi
      have h2 := hc i (by omega)
      have h3 : x.add i = ⟨x.block, x.off + i, none⟩ := by
        unfold Addr.add
        split
        · cases x; simp_all
        · rfl
      rw [h3] at h2
      rw [h2]
      simp [show i < zs.length by omega]
def natOf (l : List Int) : List Nat := l.map Int.toNat
theorem rowN_of_I {k : IntKind} {w : World} {a : Option Addr} {cap : Nat} {l : List Int} (h : RowI k w a cap l) (hp : ∀ n ∈ l, 0 ≤ n) : RowN k w a cap (natOf l) := by
  obtain ⟨h1, h2, h3⟩ := h
  refine ⟨by simpa [natOf] using h1, h2, ?_⟩
  rcases h3 with rfl | ⟨b, off, ha, hb, hc⟩
  · exact .inl rfl
  · refine .inr ⟨b, off, ha, hb, fun i hi => ?_⟩
    simp only [natOf, List.length_map] at hi
    rw [hc i hi]
    simp only [natOf, List.getElem_map]
    rw [Int.toNat_of_nonneg (hp _ (List.getElem_mem hi))]
theorem bd_u8 {n : Int} (h : (Lit.int .u8 n).wf = true) : 0 ≤ n ∧ n < 256 := by
  simp [Lit.wf, IntKind.min, IntKind.max, IntKind.signed, IntKind.bits] at h
  omega
theorem bd_u16 {n : Int} (h : (Lit.int .u16 n).wf = true) : 0 ≤ n ∧ n < 65536 := by
  simp [Lit.wf, IntKind.min, IntKind.max, IntKind.signed, IntKind.bits] at h
  omega
theorem bd_u32 {n : Int} (h : (Lit.int .u32 n).wf = true) : 0 ≤ n ∧ n < 4294967296 := by
  simp [Lit.wf, IntKind.min, IntKind.max, IntKind.signed, IntKind.bits] at h
  omega
theorem bd_i64 {n : Int} (h : (Lit.int .i64 n).wf = true) : -9223372036854775808 ≤ n ∧ n ≤ 9223372036854775807 := by
  simp [Lit.wf, IntKind.min, IntKind.max, IntKind.signed, IntKind.bits] at h
  omega
theorem rowU8_open {w : World} {a : Option Addr} {len cap : Nat} {zs : List Int}
    (h : (a = none ∧ len = 0 ∧ cap = 0 ∧ zs = []) ∨ ∃ x, a = some x ∧ len ≤ cap ∧ cap ≤ maxLen ∧ zs.length = cap ∧ (∀ i, i < zs.length → w.cell? (x.add i) = some (.int .u8 (zs.getD i 0))) ∧ ∀ n ∈ zs, (Lit.int .u8 n).wf = true) :
    ∃ l : List Nat, l.length = len ∧ RowN .u8 w a cap l ∧ ∀ n ∈ l, n < 256 := by
  obtain ⟨l, h1, h2, h3⟩ := rowI_open h
  refine ⟨natOf l, by simpa [natOf] using h1, rowN_of_I h2 fun n hn => (bd_u8 (h3 n hn)).1, fun n hn => ?_⟩
  simp only [natOf, List.mem_map] at hn
  obtain ⟨m, hm, rfl⟩ := hn
  have := bd_u8 (h3 m hm)
  omega
end Go.Proofs.Ytmgoeokdlklabaa
