/- Plain mathematics of layer 7: signs. -/
import Derived.Lib.Hide
namespace Go.Proofs.Ytmgoeokdlklabaa.M07
set_option linter.unusedVariables false

/-- a code and its extra -/
abbrev Sg := Nat × Nat
def rbits (c : Nat) : Nat := if c = 16 then 2 else if c = 17 then 3 else if c = 18 then 7 else 0
def times (s : Sg) : Nat := if s.1 < 16 then 1 else if s.1 < 18 then 3 + s.2 else 11 + s.2
def SgOk (s : Sg) : Prop := s.1 ≤ 18 ∧ s.2 < 2 ^ rbits s.1
theorem SgOk.lt {s : Sg} (h : SgOk s) : s.2 < 128 := by
  obtain ⟨h1, h2⟩ := h
  have : 2 ^ rbits s.1 ≤ 2 ^ 7 := Nat.pow_le_pow_right (by decide) (by unfold rbits; (repeat' split) <;> omega)
  omega
theorem times_bound {s : Sg} (h : SgOk s) : 1 ≤ times s ∧ times s ≤ 138 := by
  have := h.lt
  unfold times
  (repeat' split) <;> omega
/-- which length a sign says -/
def kOf (c : Nat) (out : List Nat) : Nat := if c = 16 then out.getD (out.length - 1) 0 else if 16 < c then 0 else c
def unp (n : Nat) : List Sg → List Nat → Option (List Nat)
  | [], out => if out.length = n then some out else none
  | s :: l, out => if s.1 = 16 ∧ out.length = 0 then none else if n < out.length + times s then none else unp n l (out ++ List.replicate (times s) (kOf s.1 out))
end Go.Proofs.Ytmgoeokdlklabaa.M07
