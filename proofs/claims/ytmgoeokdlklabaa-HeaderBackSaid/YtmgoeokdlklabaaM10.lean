/- Plain mathematics of layers 6, 9, 10: reading by a code. -/
import Derived.Test.YtmgoeokdlklabaaM01
import Derived.Test.YtmgoeokdlklabaaM04b
import Derived.Test.YtmgoeokdlklabaaM06
namespace Go.Proofs.Ytmgoeokdlklabaa.M10
open M01 M04 M06
set_option linter.unusedVariables false

/-- a number of n bits, and the place behind -/
def rdN (bs : List Nat) (n at_ : Nat) : Option (Nat × Nat) := if at_ + n ≤ 8 * bs.length then some (num bs at_ n, at_ + n) else none
def decF (F : TF) (bs : List Nat) : Nat → Nat → Nat → Nat → Option (Nat × Nat)
  | 0, _, _, _ => none
  | f + 1, x, k, at_ => match F x k with
    | none => none
    | some s => if 0 ≤ s then some (s.toNat, at_) else if at_ + 1 ≤ 8 * bs.length then decF F bs f (2 * x + bit bs at_) (k + 1) (at_ + 1) else none
def tabOf (l : List Nat) : TF := tabI l (words l) l.length
/-- a symbol by a code's words -/
def sym (l bs : List Nat) (at_ : Nat) : Option (Nat × Nat) := decF (tabOf l) bs 22 0 0 at_

/-- what is in a table -/
def Good (l : List Nat) (F : TF) (i : Nat) : Prop :=
  ∀ x k v, F x k = some v → k ≤ 20 ∧ (v = -1 ∨ ∃ s : Nat, v = s ∧ s < i ∧ x = (words l).getD s 0 ∧ k = l.getD s 0 ∧ 0 < k)
theorem Good.tabK {l : List Nat} {F : TF} {i : Nat} (h : Good l F i) (x n : Nat) (hn : n ≤ 20) : ∀ k, k ≤ n → Good l (tabK x n F k) i := by
  intro k
  induction k with
  | zero => exact fun _ => h
  | succ k ih =>
    intro hk x' k' v hv
    unfold M06.tabK putF at hv
    split at hv
    · next hc =>
      simp only [Option.some.injEq] at hv
      exact ⟨by omega, .inl hv.symm⟩
    · exact ih (by omega) x' k' v hv
theorem good_tabI (l : List Nat) (h20 : ∀ x ∈ l, x ≤ 20) : ∀ i, i ≤ l.length → Good l (tabI l (words l) i) i := by
  intro i
  induction i with
  | zero => intro _ x k v hv; simp [tabI] at hv
  | succ i ih =>
    intro hi
    have h1 : Good l (tabI l (words l) i) (i + 1) := fun x k v hv => by
      obtain ⟨a, b⟩ := ih (by omega) x k v hv
      refine ⟨a, ?_⟩
      rcases b with b | ⟨s, b1, b2, b3⟩
      · exact .inl b
      · exact .inr ⟨s, b1, by omega, b3⟩
    unfold tabI
    split
    · exact h1
    · next h0 =>
      have hle : l.getD i 0 ≤ 20 := getD_le h20 i
      refine Good.tabK ?_ _ _ hle _ (Nat.le_refl _)
      intro x k v hv
      unfold putF at hv
      split at hv
      · next hc =>
        simp only [Option.some.injEq] at hv
        exact ⟨by omega, .inr ⟨i, hv.symm, by omega, hc.1, hc.2, by omega⟩⟩
      · exact h1 x k v hv
theorem good_tab (l : List Nat) (h20 : ∀ x ∈ l, x ≤ 20) : Good l (tabOf l) l.length := good_tabI l h20 _ (Nat.le_refl _)

/-- n bytes that stood d ahead -/
def repOut (d : Nat) (out : List Nat) : Nat → List Nat
  | 0 => out
  | n + 1 => repOut d out n ++ [(repOut d out n).getD ((repOut d out n).length - d) 0]
theorem repOut_len (d : Nat) (out : List Nat) (n : Nat) : (repOut d out n).length = out.length + n := by
  induction n with
  | zero => rfl
  | succ n ih => simp [repOut, ih]; omega
def stoL (bs : List Nat) : Nat → Nat → List Nat → Option (Nat × List Nat)
  | 0, at_, out => some (at_, out)
  | n + 1, at_, out => if at_ + 8 ≤ 8 * bs.length then stoL bs n (at_ + 8) (out ++ [num bs at_ 8]) else none
/-- a stored block, from a byte's end on -/
def stored0 (bs : List Nat) (at_ : Nat) (out : List Nat) : Option (Nat × List Nat) :=
  if at_ + 32 ≤ 8 * bs.length then if num bs (at_ + 16) 16 = 65535 - num bs at_ 16 then stoL bs (num bs at_ 16) (at_ + 32) out else none else none
def stoB (bs : List Nat) (at_ : Nat) (out : List Nat) : Option (Nat × List Nat) := stored0 bs ((at_ + 7) / 8 * 8) out
end Go.Proofs.Ytmgoeokdlklabaa.M10
