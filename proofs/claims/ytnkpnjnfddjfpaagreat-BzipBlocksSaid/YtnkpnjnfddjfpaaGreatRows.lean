/-
  No cell of these rows narrows 'for every input' (looked for: loops, veiled, ifaces, maps, wideKeys, modest, calm, conditions, laid).
  DERIVED. THE GIVEN ROWS OF THIS SEAT. 5 by the template 'for every input the law returns true; each argument reads behind the call as it read before'; 0 by the template 'total and deterministic' (their statements: YtnkpnjnfddjfpaaGreatTotals.lean).
  GIVEN WITH THE SEED: the statements are not yours to turn. If you find one false, say at which input.
  Laid BY PROGRAM, IN A SANDBOX (cutbox-rows.mjs): the forced cells as the released guide's own fill.sh prints them over the translation fe64dc2dc9c420e7… (all of the seat's roots in one cut). By AI agents, Wed Nov 11 2026. No macro, syntax, notation, axiom, sorry.
-/
import Derived.Test.YtnkpnjnfddjfpaaGreatChecked
import GoSem.Claim
import GoSem.ClaimJoined
import GoSem.ClaimMapViews
import Derived.JoinedTies
import Derived.KernelRfl
namespace Go.Proofs.YtnkpnjnfddjfpaaGreat
/- THE CELL 'sum', in the pinned program and in every row, IS THE sha256 OF THE DUMP (.gsa) THAT YtnkpnjnfddjfpaaGreatProg.lean LOADS. Nothing in Lean hashes anything: it is a label: what it is worth is what the hold of that sum in a sandbox is worth. -/
noncomputable def Tryz.pinned : Pinned := { name := "ytnkpnjnfddjfpaagreat", sum := "fe64dc2dc9c420e70770a6bed87170416df98ab9b0fa74603c53861134691ea2", checked := Tryz.checked }
namespace Rows
def none {H : Type} : Left H := { results := [], args := [] }

/-- 'pressworklaw27.BunzipReads': WHATEVER THE INPUT: true; the input reads as it did. -/
def bunzipReadsSpec : ChangeSpec := { name := "bunzipReads", fn := fun _ => fun
  | [d1, d2] => { results := [.lit (.bool true)], args := [d1, d2] }
  | _ => none }
def bunzipReadsRow : OpenClaim := { program := "ytnkpnjnfddjfpaagreat", sum := "fe64dc2dc9c420e70770a6bed87170416df98ab9b0fa74603c53861134691ea2", func := "presswork/pressworklaw27.BunzipReads", spec := "bunzipReads", inPlace := ["internal/bytealg.IndexByte", "internal/bytealg.MakeNoZero"], unfollowed := true, recurses := true, plainKeys := false, apart := false }
def BunzipReadsSaid : Prop := bunzipReadsRow.holds Tryz.pinned (OpenSpec.ofChange bunzipReadsSpec)

/-- ITS FALSE NEIGHBOUR: 'it returns false'. Refute it at one input. -/
def bunzipReadsWrong : ChangeSpec := { name := "bunzipReads", fn := fun _ => fun
  | [d1, d2] => { results := [.lit (.bool false)], args := [d1, d2] }
  | _ => none }
def BunzipReadsWrongFalsely : Prop := bunzipReadsRow.holds Tryz.pinned (OpenSpec.ofChange bunzipReadsWrong)

/-- 'pressworklaw27.BunzipJoins': WHATEVER THE INPUT: true; the input reads as it did. -/
def bunzipJoinsSpec : ChangeSpec := { name := "bunzipJoins", fn := fun _ => fun
  | [d1, d2, d3] => { results := [.lit (.bool true)], args := [d1, d2, d3] }
  | _ => none }
def bunzipJoinsRow : OpenClaim := { program := "ytnkpnjnfddjfpaagreat", sum := "fe64dc2dc9c420e70770a6bed87170416df98ab9b0fa74603c53861134691ea2", func := "presswork/pressworklaw27.BunzipJoins", spec := "bunzipJoins", inPlace := ["internal/bytealg.IndexByte", "internal/bytealg.MakeNoZero"], unfollowed := true, recurses := true, plainKeys := false, apart := false }
def BunzipJoinsSaid : Prop := bunzipJoinsRow.holds Tryz.pinned (OpenSpec.ofChange bunzipJoinsSpec)

/-- ITS FALSE NEIGHBOUR: 'it returns false'. Refute it at one input. -/
def bunzipJoinsWrong : ChangeSpec := { name := "bunzipJoins", fn := fun _ => fun
  | [d1, d2, d3] => { results := [.lit (.bool false)], args := [d1, d2, d3] }
  | _ => none }
def BunzipJoinsWrongFalsely : Prop := bunzipJoinsRow.holds Tryz.pinned (OpenSpec.ofChange bunzipJoinsWrong)

/-- 'pressworklaw28.BzipBlocks': WHATEVER THE INPUT: true; the input reads as it did. -/
def bzipBlocksSpec : ChangeSpec := { name := "bzipBlocks", fn := fun _ => fun
  | [d1, d2, d3] => { results := [.lit (.bool true)], args := [d1, d2, d3] }
  | _ => none }
def bzipBlocksRow : OpenClaim := { program := "ytnkpnjnfddjfpaagreat", sum := "fe64dc2dc9c420e70770a6bed87170416df98ab9b0fa74603c53861134691ea2", func := "presswork/pressworklaw28.BzipBlocks", spec := "bzipBlocks", inPlace := ["internal/bytealg.IndexByte"], unfollowed := true, recurses := true, plainKeys := false, apart := false }
def BzipBlocksSaid : Prop := bzipBlocksRow.holds Tryz.pinned (OpenSpec.ofChange bzipBlocksSpec)

/-- ITS FALSE NEIGHBOUR: 'it returns false'. Refute it at one input. -/
def bzipBlocksWrong : ChangeSpec := { name := "bzipBlocks", fn := fun _ => fun
  | [d1, d2, d3] => { results := [.lit (.bool false)], args := [d1, d2, d3] }
  | _ => none }
def BzipBlocksWrongFalsely : Prop := bzipBlocksRow.holds Tryz.pinned (OpenSpec.ofChange bzipBlocksWrong)

/-- 'pressworklaw28.BzipParts': WHATEVER THE INPUT: true; the input reads as it did. -/
def bzipPartsSpec : ChangeSpec := { name := "bzipParts", fn := fun _ => fun
  | [d1, d2, d3] => { results := [.lit (.bool true)], args := [d1, d2, d3] }
  | _ => none }
def bzipPartsRow : OpenClaim := { program := "ytnkpnjnfddjfpaagreat", sum := "fe64dc2dc9c420e70770a6bed87170416df98ab9b0fa74603c53861134691ea2", func := "presswork/pressworklaw28.BzipParts", spec := "bzipParts", inPlace := ["internal/bytealg.IndexByte"], unfollowed := true, recurses := true, plainKeys := false, apart := false }
def BzipPartsSaid : Prop := bzipPartsRow.holds Tryz.pinned (OpenSpec.ofChange bzipPartsSpec)

/-- ITS FALSE NEIGHBOUR: 'it returns false'. Refute it at one input. -/
def bzipPartsWrong : ChangeSpec := { name := "bzipParts", fn := fun _ => fun
  | [d1, d2, d3] => { results := [.lit (.bool false)], args := [d1, d2, d3] }
  | _ => none }
def BzipPartsWrongFalsely : Prop := bzipPartsRow.holds Tryz.pinned (OpenSpec.ofChange bzipPartsWrong)

/-- 'pressworklaw28.BzipKnown': WHATEVER THE INPUT: true; the input reads as it did. -/
def bzipKnownSpec : ChangeSpec := { name := "bzipKnown", fn := fun _ => fun
  | [] => { results := [.lit (.bool true)], args := [] }
  | _ => none }
def bzipKnownRow : OpenClaim := { program := "ytnkpnjnfddjfpaagreat", sum := "fe64dc2dc9c420e70770a6bed87170416df98ab9b0fa74603c53861134691ea2", func := "presswork/pressworklaw28.BzipKnown", spec := "bzipKnown", inPlace := ["internal/bytealg.IndexByte"], unfollowed := true, recurses := true, plainKeys := false, apart := false }
def BzipKnownSaid : Prop := bzipKnownRow.holds Tryz.pinned (OpenSpec.ofChange bzipKnownSpec)

/-- ITS FALSE NEIGHBOUR: 'it returns false'. Refute it at one input. -/
def bzipKnownWrong : ChangeSpec := { name := "bzipKnown", fn := fun _ => fun
  | [] => { results := [.lit (.bool false)], args := [] }
  | _ => none }
def BzipKnownWrongFalsely : Prop := bzipKnownRow.holds Tryz.pinned (OpenSpec.ofChange bzipKnownWrong)

/- THE SECOND FORM. 'bulk': how many values and letters a reading holds, each counted each time it is reached (what is shared counts as often as it is met; a slice's spare places count too). A statement '..UptoSaid' is the law's where the arguments, and the package variables that the reading takes, are together of bulk at most 1048576: NARROWER than '..Said'. Prove '..Said' where nothing that the law and all that it calls make is longer than what came in: it says more and counts as full. Else prove '..UptoSaid'. A law counts once. -/
mutual
def uptoBulk {H : Type} : DataW H → Nat
  | .lit (.string bytes) => bytes.length + 1
  | .lit _ => 1
  | .nil => 1
  | .ptr d => uptoBulk d + 1
  | .slice elems spare => uptoBulkAll elems + uptoBulkAll spare + 1
  | .agg parts => uptoBulkAll parts + 1
  | .iface _ d => uptoBulk d + 1
  | .map entries => uptoBulkEntries entries + 1
  | .held _ => 1
def uptoBulkAll {H : Type} : List (DataW H) → Nat
  | [] => 0
  | d :: r => uptoBulk d + uptoBulkAll r
def uptoBulkEntries {H : Type} : List (Lit × DataW H) → Nat
  | [] => 0
  | x :: r => uptoBulkEntry x + uptoBulkEntries r
def uptoBulkEntry {H : Type} : Lit × DataW H → Nat
  | (.string bytes, d) => bytes.length + uptoBulk d + 1
  | (_, d) => uptoBulk d + 1
 end
def uptoSmall : (H : Type) → List (DataW H) → Bool := fun _ ds => decide (uptoBulkAll ds ≤ 1048576)
def OpenSpec.upto (s : _root_.Go.ChangeSpec) : _root_.Go.OpenSpec := { _root_.Go.OpenSpec.ofChange s with cond := some uptoSmall }

/-- 'pressworklaw27.BunzipReads', WHERE WHAT IT READS IS OF BULK AT MOST 1048576: true; the input reads as it did. -/
def bunzipReadsUptoRow : OpenClaim := { program := "ytnkpnjnfddjfpaagreat", sum := "fe64dc2dc9c420e70770a6bed87170416df98ab9b0fa74603c53861134691ea2", func := "presswork/pressworklaw27.BunzipReads", spec := "bunzipReads", inPlace := ["internal/bytealg.IndexByte", "internal/bytealg.MakeNoZero"], unfollowed := true, recurses := true, plainKeys := false, apart := false, narrowed := true }
def BunzipReadsUptoSaid : Prop := bunzipReadsUptoRow.holds Tryz.pinned (OpenSpec.upto bunzipReadsSpec)

/-- 'pressworklaw27.BunzipJoins', WHERE WHAT IT READS IS OF BULK AT MOST 1048576: true; the input reads as it did. -/
def bunzipJoinsUptoRow : OpenClaim := { program := "ytnkpnjnfddjfpaagreat", sum := "fe64dc2dc9c420e70770a6bed87170416df98ab9b0fa74603c53861134691ea2", func := "presswork/pressworklaw27.BunzipJoins", spec := "bunzipJoins", inPlace := ["internal/bytealg.IndexByte", "internal/bytealg.MakeNoZero"], unfollowed := true, recurses := true, plainKeys := false, apart := false, narrowed := true }
def BunzipJoinsUptoSaid : Prop := bunzipJoinsUptoRow.holds Tryz.pinned (OpenSpec.upto bunzipJoinsSpec)

/-- 'pressworklaw28.BzipBlocks', WHERE WHAT IT READS IS OF BULK AT MOST 1048576: true; the input reads as it did. -/
def bzipBlocksUptoRow : OpenClaim := { program := "ytnkpnjnfddjfpaagreat", sum := "fe64dc2dc9c420e70770a6bed87170416df98ab9b0fa74603c53861134691ea2", func := "presswork/pressworklaw28.BzipBlocks", spec := "bzipBlocks", inPlace := ["internal/bytealg.IndexByte"], unfollowed := true, recurses := true, plainKeys := false, apart := false, narrowed := true }
def BzipBlocksUptoSaid : Prop := bzipBlocksUptoRow.holds Tryz.pinned (OpenSpec.upto bzipBlocksSpec)

/-- 'pressworklaw28.BzipParts', WHERE WHAT IT READS IS OF BULK AT MOST 1048576: true; the input reads as it did. -/
def bzipPartsUptoRow : OpenClaim := { program := "ytnkpnjnfddjfpaagreat", sum := "fe64dc2dc9c420e70770a6bed87170416df98ab9b0fa74603c53861134691ea2", func := "presswork/pressworklaw28.BzipParts", spec := "bzipParts", inPlace := ["internal/bytealg.IndexByte"], unfollowed := true, recurses := true, plainKeys := false, apart := false, narrowed := true }
def BzipPartsUptoSaid : Prop := bzipPartsUptoRow.holds Tryz.pinned (OpenSpec.upto bzipPartsSpec)

/-- 'pressworklaw28.BzipKnown', WHERE WHAT IT READS IS OF BULK AT MOST 1048576: true; the input reads as it did. -/
def bzipKnownUptoRow : OpenClaim := { program := "ytnkpnjnfddjfpaagreat", sum := "fe64dc2dc9c420e70770a6bed87170416df98ab9b0fa74603c53861134691ea2", func := "presswork/pressworklaw28.BzipKnown", spec := "bzipKnown", inPlace := ["internal/bytealg.IndexByte"], unfollowed := true, recurses := true, plainKeys := false, apart := false, narrowed := true }
def BzipKnownUptoSaid : Prop := bzipKnownUptoRow.holds Tryz.pinned (OpenSpec.upto bzipKnownSpec)

end Rows
end Go.Proofs.YtnkpnjnfddjfpaaGreat
