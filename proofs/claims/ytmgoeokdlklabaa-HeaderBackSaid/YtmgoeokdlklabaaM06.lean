/- Plain mathematics of layer 6: what a table of words holds, symbol by symbol. -/
import Derived.Lib.Hide
namespace Go.Proofs.Ytmgoeokdlklabaa.M06
set_option linter.unusedVariables false

abbrev TF := Nat → Nat → Option Int
def putF (F : TF) (x k : Nat) (v : Int) : TF := fun x' k' => if x' = x ∧ k' = k then some v else F x' k'
/-- the beginnings of a word of n bits -/
def tabK (x n : Nat) (F : TF) : Nat → TF
  | 0 => F
  | k + 1 => putF (tabK x n F k) (x / 2 ^ (n - k)) k (-1)
def tabI (lens ws : List Nat) : Nat → TF
  | 0 => fun _ _ => none
  | i + 1 => if lens.getD i 0 = 0 then tabI lens ws i else tabK (ws.getD i 0) (lens.getD i 0) (putF (tabI lens ws i) (ws.getD i 0) (lens.getD i 0) i) (lens.getD i 0)
end Go.Proofs.Ytmgoeokdlklabaa.M06
