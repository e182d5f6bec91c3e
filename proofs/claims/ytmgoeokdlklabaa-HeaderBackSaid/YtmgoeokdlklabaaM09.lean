/- Plain mathematics of layer 9: a head. -/
import Derived.Test.YtmgoeokdlklabaaM07
import Derived.Test.YtmgoeokdlklabaaM10
import Derived.Test.YtmgoeokdlklabaaHdrA
namespace Go.Proofs.Ytmgoeokdlklabaa.M09
open M01 M04 M06 M07 M10
set_option linter.unusedVariables false

def ordL : List Nat := [16, 17, 18, 0, 8, 7, 9, 6, 10, 5, 11, 4, 12, 3, 13, 2, 14, 1, 15]
/-- lengths of the signs' words -/
def lensL (bs : List Nat) (p : Nat) : Nat → List Nat
  | 0 => List.replicate 19 0
  | k + 1 => (lensL bs p k).set (ordL.getD k 0) (num bs (p + 3 * k) 3)
theorem lensL_len (bs : List Nat) (p k : Nat) : (lensL bs p k).length = 19 := by
  induction k with
  | zero => rfl
  | succ k ih => simp [lensL, ih]
def sgStep (lens bs : List Nat) (tot : Nat) (k : Nat → Nat → List Sg → Option (List Sg × Nat)) (at_ said : Nat) (acc : List Sg) : Option (List Sg × Nat) :=
  if said < tot then
    match sym lens bs at_ with
    | none => none
    | some (c, a1) => if a1 + rbits c ≤ 8 * bs.length then k (a1 + rbits c) (said + times (c, num bs a1 (rbits c))) (acc ++ [(c, num bs a1 (rbits c))]) else none
  else some (acc, at_)
/-- signs, till they say so many lengths -/
def sgL (lens bs : List Nat) (tot : Nat) : Nat → Nat → Nat → List Sg → Option (List Sg × Nat)
  | 0 => fun _ _ _ => none
  | f + 1 => sgStep lens bs tot (sgL lens bs tot f)
theorem sgL_succ (lens bs : List Nat) (tot f at_ said : Nat) (acc : List Sg) : sgL lens bs tot (f + 1) at_ said acc = sgStep lens bs tot (sgL lens bs tot f) at_ said acc := rfl
def hdrE (a tot : Nat) (R : Option (List Sg × Nat)) : Option ((List Nat × List Nat) × Nat) :=
  match R with
  | none => none
  | some (l, at2) => match unp tot l [] with
    | none => none
    | some all => if mayH (all.take a) (all.drop a) = true then some ((all.take a, all.drop a), at2) else none
def hdrB (bs : List Nat) (a b n p : Nat) : Option ((List Nat × List Nat) × Nat) :=
  if 8 * bs.length < p + 3 * n then none else if (clsE (lensL bs p n)).1 ≠ 2 then none else hdrE a (a + b) (sgL (lensL bs p n) bs (a + b) 400 (p + 3 * n) 0 [])
/-- a head -/
def hdr (bs : List Nat) (at_ : Nat) : Option ((List Nat × List Nat) × Nat) :=
  if 8 * bs.length < at_ + 14 then none else hdrB bs (num bs at_ 5 + 257) (num bs (at_ + 5) 5 + 1) (num bs (at_ + 10) 4 + 4) (at_ + 14)
end Go.Proofs.Ytmgoeokdlklabaa.M09
