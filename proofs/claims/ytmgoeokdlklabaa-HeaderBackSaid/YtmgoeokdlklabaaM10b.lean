/- Plain mathematics of layer 10: symbols by two codes. -/
import Derived.Test.YtmgoeokdlklabaaGen
import Derived.Test.YtmgoeokdlklabaaM10
namespace Go.Proofs.Ytmgoeokdlklabaa.M10
open M01 M04 M06 M08
set_option linter.unusedVariables false

theorem decF_some {l bs : List Nat} {F : TF} {i : Nat} (hg : Good l F i) : ∀ f x k at_ s at2, decF F bs f x k at_ = some (s, at2) → s < i ∧ at2 + k = at_ + l.getD s 0 ∧ at_ ≤ at2 ∧ 0 < l.getD s 0 := by
  intro f
  induction f with
  | zero => intro x k at_ s at2 h; simp [decF] at h
  | succ f ih =>
    intro x k at_ s at2 h
    unfold decF at h
    split at h
    · simp at h
    · next v hv =>
      obtain ⟨_, h2⟩ := hg x k v hv
      split at h
      · next h0 =>
        rcases h2 with rfl | ⟨s', rfl, h3, h4, h5, h6⟩
        · omega
        · simp only [Option.some.injEq, Prod.mk.injEq, Int.toNat_natCast] at h
          obtain ⟨rfl, rfl⟩ := h
          omega
      · split at h
        · have := ih _ _ _ _ _ h
          omega
        · simp at h
theorem sym_some {l bs : List Nat} {at_ s at2 : Nat} (h20 : ∀ x ∈ l, x ≤ 20) (h : sym l bs at_ = some (s, at2)) : s < l.length ∧ at2 = at_ + l.getD s 0 ∧ at_ < at2 := by
  obtain ⟨h1, h2, h3, h4⟩ := decF_some (good_tab l h20) _ _ _ _ _ _ h
  omega

/-- one symbol, or a length and a distance; k: what comes then -/
def symsStep (l1 l2 bs : List Nat) (k : Nat → List Nat → Option (Nat × List Nat)) (at_ : Nat) (out : List Nat) : Option (Nat × List Nat) :=
  match sym l1 bs at_ with
  | none => none
  | some (c, a1) => if c < 256 then k a1 (out ++ [c]) else if c = 256 then some (a1, out) else if (loS c).2.2 ≠ 0 then none else
    match rdN bs (loS c).2.1 a1 with
    | none => none
    | some (x, a2) => match sym l2 bs a2 with
      | none => none
      | some (d, a3) => if (doS d).2.2 ≠ 0 then none else match rdN bs (doS d).2.1 a3 with
        | none => none
        | some (y, a4) => if out.length < (doS d).1 + y then none else k a4 (repOut ((doS d).1 + y) out ((loS c).1 + x))
/-- symbols by two codes, till the end of a block -/
def symsL (l1 l2 bs : List Nat) : Nat → Nat → List Nat → Option (Nat × List Nat)
  | 0 => fun _ _ => none
  | f + 1 => symsStep l1 l2 bs (symsL l1 l2 bs f)
theorem symsL_succ (l1 l2 bs : List Nat) (f at_ : Nat) (out : List Nat) : symsL l1 l2 bs (f + 1) at_ out = symsStep l1 l2 bs (symsL l1 l2 bs f) at_ out := rfl
def symsB (l1 l2 bs : List Nat) (at_ : Nat) (out : List Nat) : Option (Nat × List Nat) :=
  if (wordsE l1).2 = 0 then if (wordsE l2).2 = 0 then symsL l1 l2 bs (8 * bs.length + 1) at_ out else none else none

theorem loS_bound (c : Nat) (h : (loS c).2.2 = 0) : (loS c).2.1 ≤ 5 ∧ (loS c).1 + 2 ^ (loS c).2.1 ≤ 259 := by
  by_cases hc : 257 ≤ c ∧ c ≤ 285
  · obtain ⟨k, rfl⟩ : ∃ k, c = 257 + k := ⟨c - 257, by omega⟩
    have hk : k < 29 := by omega
    have hall : ∀ k : Fin 29, (loS (257 + k.val : Nat)).2.1 ≤ 5 ∧ (loS (257 + k.val : Nat)).1 + 2 ^ (loS (257 + k.val : Nat)).2.1 ≤ 259 := by decide +kernel
    exact hall ⟨k, hk⟩
  · unfold loS at h
    rw [if_neg (by omega)] at h
    simp at h
theorem doS_bound (c : Nat) (h : (doS c).2.2 = 0) : (doS c).2.1 ≤ 13 ∧ 1 ≤ (doS c).1 ∧ (doS c).1 ≤ 32768 := by
  by_cases hc : c < 30
  · have hall : ∀ k : Fin 30, (doS (k.val : Nat)).2.1 ≤ 13 ∧ 1 ≤ (doS (k.val : Nat)).1 ∧ (doS (k.val : Nat)).1 ≤ 32768 := by decide +kernel
    exact hall ⟨c, hc⟩
  · unfold doS at h
    rw [if_neg (by omega)] at h
    simp at h
end Go.Proofs.Ytmgoeokdlklabaa.M10
