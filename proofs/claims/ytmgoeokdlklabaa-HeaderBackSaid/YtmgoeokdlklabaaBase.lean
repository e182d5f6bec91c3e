/- Plain words that all walks of this seat use: a slice that is read as a list of numbers. -/
import Derived.WalkKit
import Derived.WalkLawsBesides
import Derived.WalkSpells
import Derived.Lib.Hide
namespace Go.Proofs.Ytmgoeokdlklabaa
open Go.RowKit
set_option linter.unusedVariables false

/-- A slice of unsigned numbers of one kind that reads as a list. -/
def RowN (k : IntKind) (w : World) (a : Option Addr) (cap : Nat) (l : List Nat) : Prop :=
  l.length ≤ cap ∧ (cap ≤ 9223372036854775807 ∧ (a = none → cap = 0)) ∧ (l = [] ∨ ∃ b off, a = some ⟨b, off, none⟩ ∧ b < w.heap.size ∧ ∀ i (h : i < l.length), w.cell? ⟨b, off + i, none⟩ = some (.int k (l[i] : Nat)))
/-- A slice of numbers of one kind that reads as a list. -/
def RowI (k : IntKind) (w : World) (a : Option Addr) (cap : Nat) (l : List Int) : Prop :=
  l.length ≤ cap ∧ (cap ≤ 9223372036854775807 ∧ (a = none → cap = 0)) ∧ (l = [] ∨ ∃ b off, a = some ⟨b, off, none⟩ ∧ b < w.heap.size ∧ ∀ i (h : i < l.length), w.cell? ⟨b, off + i, none⟩ = some (.int k l[i]))

theorem RowN.at {k : IntKind} {w : World} {a : Option Addr} {cap : Nat} {l : List Nat} (h : RowN k w a cap l) {i : Nat} (hi : i < l.length) :
   ∃ b off, a = some ⟨b, off, none⟩ ∧ b < w.heap.size ∧ w.cell? ⟨b, off + i, none⟩ = some (.int k (l[i] : Nat)) := by
  obtain ⟨_, _, rfl | ⟨b, off, rfl, hb, hc⟩⟩ := h
  · simp at hi
  · exact ⟨b, off, rfl, hb, hc i hi⟩
theorem RowN.len {k : IntKind} {w : World} {a : Option Addr} {cap : Nat} {l : List Nat} (h : RowN k w a cap l) : l.length ≤ 9223372036854775807 := by have := h.1; have := h.2.1.1; omega
theorem RowI.at {k : IntKind} {w : World} {a : Option Addr} {cap : Nat} {l : List Int} (h : RowI k w a cap l) {i : Nat} (hi : i < l.length) :
   ∃ b off, a = some ⟨b, off, none⟩ ∧ b < w.heap.size ∧ w.cell? ⟨b, off + i, none⟩ = some (.int k l[i]) := by
  obtain ⟨_, _, rfl | ⟨b, off, rfl, hb, hc⟩⟩ := h
  · simp at hi
  · exact ⟨b, off, rfl, hb, hc i hi⟩
theorem RowI.len {k : IntKind} {w : World} {a : Option Addr} {cap : Nat} {l : List Int} (h : RowI k w a cap l) : l.length ≤ 9223372036854775807 := by have := h.1; have := h.2.1.1; omega
theorem RowN.below {k : IntKind} {w w' : World} {a : Option Addr} {cap : Nat} {l : List Nat} (h : RowN k w a cap l) (hb : Below w.heap.size w w') : RowN k w' a cap l := by
  obtain ⟨h1, h2, h3⟩ := h
  refine ⟨h1, h2, ?_⟩
  rcases h3 with h3 | ⟨b, off, ha, hb', hc⟩
  · exact .inl h3
  · exact .inr ⟨b, off, ha, Nat.lt_of_lt_of_le hb' hb.size, fun i hi => (hb.cell (p := ⟨b, off + i, none⟩) hb').trans (hc i hi)⟩
theorem RowI.below {k : IntKind} {w w' : World} {a : Option Addr} {cap : Nat} {l : List Int} (h : RowI k w a cap l) (hb : Below w.heap.size w w') : RowI k w' a cap l := by
  obtain ⟨h1, h2, h3⟩ := h
  refine ⟨h1, h2, ?_⟩
  rcases h3 with h3 | ⟨b, off, ha, hb', hc⟩
  · exact .inl h3
  · exact .inr ⟨b, off, ha, Nat.lt_of_lt_of_le hb' hb.size, fun i hi => (hb.cell (p := ⟨b, off + i, none⟩) hb').trans (hc i hi)⟩
theorem RowN.nil (k : IntKind) (w : World) : RowN k w none 0 [] := ⟨by simp, by simp, .inl rfl⟩
theorem RowI.nil (k : IntKind) (w : World) : RowI k w none 0 [] := ⟨by simp, by simp, .inl rfl⟩
theorem ret_int {k : IntKind} {a b : Int} (h : a = b) : Ending.returned (.int k a) = .returned (.int k b) := by rw [h]
theorem ret_bool {a b : Bool} (h : a = b) : Ending.returned (.bool a) = .returned (.bool b) := by rw [h]
theorem ret_two {k k' : IntKind} {a b a' b' : Int} (h : a = b) (h' : a' = b') : Ending.returned (.tuple #[.int k a, .int k' a']) = .returned (.tuple #[.int k b, .int k' b']) := by rw [h, h']
theorem int_eq {k : IntKind} {a b : Int} (h : a = b) : (Value.int k a) = .int k b := by rw [h]
end Go.Proofs.Ytmgoeokdlklabaa
