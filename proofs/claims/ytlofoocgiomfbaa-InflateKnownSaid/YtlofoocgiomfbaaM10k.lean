/- InflateKnown: the closed values. -/
import Derived.Test.YtlofoocgiomfbaaLay
import Derived.Test.YtlofoocgiomfbaaLoc
namespace Go.Proofs.Ytlofoocgiomfbaa
open Go.RowKit Go.Shelf M01 M04 M09 M10 M17
set_option linter.unusedVariables false

/-- the rows of the statement: bytes, what they say, how many bytes they take, the error -/
def knownL : List (List Nat × List Nat × Nat × Nat) := [([1, 2, 0, 253, 255, 97, 98], [97, 98], 7, 0), ([3, 0], [], 2, 0), ([7], [], 0, 2), ([], [], 0, 2), ([1, 2, 0, 253, 254, 97, 98], [], 0, 2), ([1, 2, 0, 253, 255, 97], [], 0, 2), ([1, 0, 0, 255, 255], [], 5, 0),
  ([0, 1, 0, 254, 255, 97, 1, 1, 0, 254, 255, 98], [97, 98], 12, 0), ([0, 1, 0, 254, 255, 97], [], 0, 2), ([75, 4, 0], [97], 3, 0), ([75, 4], [], 0, 2), ([249, 1, 0, 254, 255, 97], [97], 6, 0), ([5, 0], [], 0, 2), ([3], [], 0, 2)]
def knownR (r : List Nat × List Nat × Nat × Nat) : Bool :=
  match inflB r.1 with
  | none => decide (r.2.1 = [] ∧ r.2.2.1 = 0 ∧ r.2.2.2 = 2)
  | some q => decide (q.2 = r.2.1 ∧ (q.1 + 7) / 8 = r.2.2.1 ∧ r.2.2.2 = 0)
theorem known_rows : ∀ r ∈ knownL, knownR r = true ∧ r.1.length ≤ 100 ∧ r.2.1.length ≤ 2 ∧ (∀ x ∈ r.1, x < 256) ∧ r.2.2.1 ≤ 100 := by decide +kernel
def knownT (d : Nat) : List Tok := [⟨0, 0, 97⟩, ⟨0, 0, 98⟩, ⟨258, (d : Nat), 0⟩]
def knownB (d : Nat) : Wst := addSymE fixF (layTo fixF fixD (addNum ([], 0) 3 3) (knownT d)) 256
theorem known_far1 : ((inflB (knownB 1).1).map fun q => q.2.length) = some 260 := by decide +kernel
theorem known_far2 : ((inflB (knownB 2).1).map fun q => q.2.length) = some 260 := by decide +kernel
theorem known_far3 : inflB (knownB 3).1 = none := by decide +kernel
def knownS (s : Nat) : Wst := addNum (addSymE fixF (addNum ([], 0) 3 3) s) 0 20
theorem known_sym : inflB (knownS 284).1 = none ∧ inflB (knownS 285).1 = none ∧ inflB (knownS 286).1 = none ∧ inflB (knownS 287).1 = none := by decide +kernel
theorem known_ab : inflB [1, 2, 0, 253, 255, 97, 98] = some (56, [97, 98]) := by decide +kernel
end Go.Proofs.Ytlofoocgiomfbaa
