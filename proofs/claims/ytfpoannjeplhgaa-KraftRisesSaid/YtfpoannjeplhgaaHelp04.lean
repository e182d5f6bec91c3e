/- Small facts for the laws of layer 4. -/
import Derived.Test.YtfpoannjeplhgaaClasses
import Derived.Test.YtfpoannjeplhgaaOpen
import Derived.Test.YtfpoannjeplhgaaM04b
import Derived.BigQuiet
import Derived.Deep.QuietTactic
namespace Go.Proofs.Ytfpoannjeplhgaa
open Go.RowKit M04
set_option linter.unusedVariables false

theorem getD_at {l : List Nat} {i : Nat} (h : i < l.length) : l.getD i 0 = l[i] := by simp [h]
theorem wrap_u8 (n : Int) (h0 : 0 ≤ n) (h1 : n < 256) : IntKind.u8.wrap n = n := by simp [IntKind.wrap, IntKind.bits, IntKind.signed]; omega
theorem natpow (n : Nat) : (2 : Int) ^ n = ((2 ^ n : Nat) : Int) := by simp

/-- what Words answers where it answers: the words -/
theorem wordsE_ok {l : List Nat} (h : (wordsE l).2 = 0) : wordsE l = (words l, 0) ∧ May l ∧ weight l ≤ 2 ^ 20 := by
  unfold wordsE at *
  split at h
  · simp at h
  · split at h
    · simp at h
    · rename_i h1 h2
      rw [if_neg h1, if_neg h2]
      exact ⟨rfl, by simpa using h1, by omega⟩
theorem wordsE_bad {l : List Nat} (h : (wordsE l).2 ≠ 0) : (wordsE l).1 = [] := by
  unfold wordsE at *
  split
  · rfl
  · split
    · rfl
    · rename_i h1 h2
      rw [if_neg h1, if_neg h2] at h
      simp at h

end Go.Proofs.Ytfpoannjeplhgaa
