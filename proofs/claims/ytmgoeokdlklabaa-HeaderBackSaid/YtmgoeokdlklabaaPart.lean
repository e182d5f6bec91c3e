/- A row of numbers that is filled from the left. -/
import Derived.Test.YtmgoeokdlklabaaLib
namespace Go.Proofs.Ytmgoeokdlklabaa
open Go.RowKit
set_option linter.unusedVariables false

def fixN (i : Nat) : Nat := if 143 < i ∧ i < 256 then 9 else if 255 < i ∧ i < 280 then 7 else 8
def partL (f : Nat → Nat) (n k : Nat) : List Nat := (List.range n).map fun i => if i < k then f i else 0
theorem partL_len (f : Nat → Nat) (n k : Nat) : (partL f n k).length = n := by simp [partL]
theorem partL_zero (f : Nat → Nat) (n : Nat) : partL f n 0 = List.replicate n 0 := by
  apply List.ext_getElem?
  intro i
  simp only [partL, List.getElem?_map, List.getElem?_replicate, Nat.not_lt_zero, if_false]
  by_cases h : i < n
  · simp [h]
  · simp [h]
theorem partL_succ (f : Nat → Nat) (n k : Nat) (hk : k < n) : (partL f n k).set k (f k) = partL f n (k + 1) := by
  apply List.ext_getElem?
  intro i
  rw [List.getElem?_set, partL_len]
  unfold partL
  by_cases he : k = i
  · subst he; rw [if_pos rfl, if_pos hk]; simp [hk]
  · rw [if_neg he]
    by_cases h : i < n
    · simp only [List.getElem?_map, List.getElem?_range h, Option.map_some, Option.some.injEq]
      by_cases h2 : i < k
      · rw [if_pos h2, if_pos (by omega)]
      · rw [if_neg h2, if_neg (by omega)]
    · simp [h]
theorem part_at {A : World} {base g n k : Nat} {f : Nat → Nat} (h : OwnN 5 .u8 A base (some ⟨g, 0, none⟩) n (partL f n k)) (s : Nat) (hs : s < n) : (∃ v, A.cell? ⟨g, s, none⟩ = some v) ∧ A.frozen? ⟨g, s, none⟩ = false := by
  obtain ⟨g', he, _, _, hc, hf⟩ := h.at (i := s) (by rw [partL_len]; exact hs)
  simp only [Option.some.injEq, Addr.mk.injEq, and_true] at he
  subst he
  exact ⟨⟨_, hc⟩, hf⟩
theorem part_put {A : World} {base g n k : Nat} {f : Nat → Nat} (h : OwnN 5 .u8 A base (some ⟨g, 0, none⟩) n (partL f n k)) (hk : k < n) : OwnN 5 .u8 (A.setCell ⟨g, k, none⟩ (.int .u8 (f k : Nat))) base (some ⟨g, 0, none⟩) n (partL f n (k + 1)) := by
  rw [← partL_succ f n k hk]
  exact (OwnN.stored h _ _).1
theorem part_put2 {A : World} {base g n k x : Nat} {f : Nat → Nat} (h : OwnN 5 .u8 A base (some ⟨g, 0, none⟩) n (partL f n k)) (hk : k < n) : OwnN 5 .u8 ((A.setCell ⟨g, k, none⟩ (.int .u8 (x : Nat))).setCell ⟨g, k, none⟩ (.int .u8 (f k : Nat))) base (some ⟨g, 0, none⟩) n (partL f n (k + 1)) := by
  rw [← partL_succ f n k hk]
  have := (OwnN.stored (OwnN.stored h k x).1 k (f k)).1
  rwa [List.set_set] at this
end Go.Proofs.Ytmgoeokdlklabaa
