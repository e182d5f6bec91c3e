/- Plain mathematics of layer 1: bits of bytes, the least first. -/
import Derived.Lib.Hide
namespace Go.Proofs.Ytmgoeokdlklabaa.M01
set_option linter.unusedVariables false

/-- bit i of bytes -/
def bit (bs : List Nat) (i : Nat) : Nat := bs.getD (i / 8) 0 / 2 ^ (i % 8) % 2
theorem bit_lt (bs : List Nat) (i : Nat) : bit bs i < 2 := Nat.mod_lt _ (by decide)
/-- the number of n bits from a place on -/
def num (bs : List Nat) (at_ : Nat) : Nat → Nat
  | 0 => 0
  | n + 1 => num bs at_ n + bit bs (at_ + n) * 2 ^ n
theorem num_lt (bs : List Nat) (at_ n : Nat) : num bs at_ n < 2 ^ n := by
  induction n with
  | zero => simp [num]
  | succ n ih =>
    have := bit_lt bs (at_ + n)
    simp only [num, Nat.pow_succ]
    have h : bit bs (at_ + n) * 2 ^ n ≤ 1 * 2 ^ n := Nat.mul_le_mul_right _ (by omega)
    omega
theorem or_add (v b k : Nat) (hv : v < 2 ^ k) : v ||| b * 2 ^ k = v + b * 2 ^ k := by
  rw [Nat.or_comm, Nat.mul_comm, ← Nat.two_pow_add_eq_or_of_lt hv]
  omega
end Go.Proofs.Ytmgoeokdlklabaa.M01
