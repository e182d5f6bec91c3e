/- Plain mathematics of layer 17: bits of stored blocks. -/
import Derived.Lib.Hide
namespace Go.Proofs.Ytlofoocgiomfbaa.M17
set_option linter.unusedVariables false

def align (x : Nat) : Nat := (x + 7) / 8 * 8
/-- the place behind stored blocks of n bytes, from a place on -/
def st (n at_ : Nat) : Nat := if n ≤ 65535 then align (at_ + 3) + 32 + 8 * n else st (n - 65535) (align (at_ + 3) + 32 + 8 * 65535)
termination_by n
decreasing_by omega
/-- the place behind i full blocks -/
def ev (at_ : Nat) : Nat → Nat
  | 0 => at_
  | i + 1 => align (ev at_ i + 3) + 32 + 8 * 65535
theorem ev_shift (at_ i : Nat) : ev (align (at_ + 3) + 32 + 8 * 65535) i = ev at_ (i + 1) := by
  induction i with
  | zero => rfl
  | succ i ih => simp only [ev] at *; rw [ih]
theorem st_ev (b : Nat) : ∀ n at_, (n + 65534) / 65535 = b + 1 → st n at_ = align (ev at_ b + 3) + 32 + 8 * (n - 65535 * b) := by
  induction b with
  | zero =>
    intro n at_ h
    rw [st, if_pos (by omega)]
    simp [ev]
  | succ b ih =>
    intro n at_ h
    rw [st, if_neg (by omega), ih (n - 65535) _ (by omega), ev_shift]
    have : n - 65535 - 65535 * b = n - 65535 * (b + 1) := by omega
    rw [this]
theorem st_zero (at_ : Nat) : st 0 at_ = align (at_ + 3) + 32 := by rw [st, if_pos (by omega)]
theorem align_le (x : Nat) : x ≤ align x ∧ align x ≤ x + 7 ∧ align x % 8 = 0 := by unfold align; omega
theorem ev_le (at_ i : Nat) : at_ ≤ ev at_ i ∧ ev at_ i ≤ at_ + 524330 * i := by
  induction i with
  | zero => simp [ev]
  | succ i ih => have := align_le (ev at_ i + 3); simp only [ev]; omega
theorem st_le (n : Nat) : ∀ at_, at_ + 8 * n + 35 ≤ st n at_ ∧ st n at_ ≤ at_ + 8 * n + 42 * (n / 65535 + 1) ∧ st n at_ % 8 = 0 := by
  induction n using Nat.strongRecOn with
  | _ n ih =>
    intro at_
    have ha := align_le (at_ + 3)
    rw [st]
    split
    · omega
    · have := ih (n - 65535) (by omega) (align (at_ + 3) + 32 + 8 * 65535)
      have h1 : n / 65535 = (n - 65535) / 65535 + 1 := by omega
      rw [h1]
      omega
end Go.Proofs.Ytlofoocgiomfbaa.M17
