/- Plain mathematics of layer 10: blocks, a stream. -/
import Derived.Test.YtlofoocgiomfbaaM09
import Derived.Test.YtlofoocgiomfbaaM10b
import Derived.Test.YtlofoocgiomfbaaFixed
namespace Go.Proofs.Ytlofoocgiomfbaa.M10
open M01 M04 M06 M07 M08 M09
set_option linter.unusedVariables false
/-- a dynamic block -/
def dynB (bs : List Nat) (at_ : Nat) (out : List Nat) : Option (Nat × List Nat) :=
  match hdr bs at_ with
  | none => none
  | some (fo, a2) => symsB fo.1 fo.2 bs a2 out
/-- what stands in a block of a kind -/
def blkK (k : Nat) (bs : List Nat) (at_ : Nat) (out : List Nat) : Option (Nat × List Nat) :=
  if k = 0 then stoB bs at_ out else if k = 1 then symsB fixF fixD bs at_ out else if k = 2 then dynB bs at_ out else none
def inflStep (bs : List Nat) (k : Nat → List Nat → Option (Nat × List Nat)) (at_ : Nat) (out : List Nat) : Option (Nat × List Nat) :=
  if at_ + 1 ≤ 8 * bs.length then if at_ + 1 + 2 ≤ 8 * bs.length then
    match blkK (num bs (at_ + 1) 2) bs (at_ + 1 + 2) out with
    | none => none
    | some (a2, o2) => if num bs at_ 1 = 0 then k a2 o2 else some (a2, o2)
  else none else none
/-- blocks, till the last one -/
def inflL (bs : List Nat) : Nat → Nat → List Nat → Option (Nat × List Nat)
  | 0 => fun _ _ => none
  | f + 1 => inflStep bs (inflL bs f)
theorem inflL_succ (bs : List Nat) (f at_ : Nat) (out : List Nat) : inflL bs (f + 1) at_ out = inflStep bs (inflL bs f) at_ out := rfl
def inflB (bs : List Nat) : Option (Nat × List Nat) := inflL bs (8 * bs.length + 1) 0 []
end Go.Proofs.Ytlofoocgiomfbaa.M10
