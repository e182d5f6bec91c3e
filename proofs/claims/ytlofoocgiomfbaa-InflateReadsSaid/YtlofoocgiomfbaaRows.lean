/-
  No cell of these rows narrows 'for every input' (looked for: loops, veiled, ifaces, maps, wideKeys, modest, calm, conditions, laid).
  DERIVED. THE GIVEN ROWS OF THIS SEAT. 8 by the template 'for every input the law returns true; each argument reads behind the call as it read before'; 0 by the template 'total and deterministic' (their statements: YtlofoocgiomfbaaTotals.lean).
  GIVEN WITH THE SEED: the statements are not yours to turn. If you find one false, say at which input.
  Laid BY PROGRAM, IN A SANDBOX (cutbox-rows.mjs): the forced cells as the released guide's own fill.sh prints them over the translation 0ea7e1e29183533f… (all of the seat's roots in one cut). By AI agents, Wed Nov 11 2026. No macro, syntax, notation, axiom, sorry.
-/
import Derived.Test.YtlofoocgiomfbaaChecked
import GoSem.Claim
import GoSem.ClaimJoined
import GoSem.ClaimMapViews
import Derived.JoinedTies
import Derived.KernelRfl
namespace Go.Proofs.Ytlofoocgiomfbaa
/- THE CELL 'sum', in the pinned program and in every row, IS THE sha256 OF THE DUMP (.gsa) THAT YtlofoocgiomfbaaProg.lean LOADS. Nothing in Lean hashes anything: it is a label: what it is worth is what the hold of that sum in a sandbox is worth. -/
noncomputable def Try.pinned : Pinned := { name := "ytlofoocgiomfbaa", sum := "0ea7e1e29183533f324461422a827c936e74e3cfa35b74e901f87fc382742a98", checked := Try.checked }
namespace Rows
def none {H : Type} : Left H := { results := [], args := [] }

/-- 'pressworklaw17.CostSymbols': WHATEVER THE INPUT: true; the input reads as it did. -/
def costSymbolsSpec : ChangeSpec := { name := "costSymbols", fn := fun _ => fun
  | [d1, d2, d3] => { results := [.lit (.bool true)], args := [d1, d2, d3] }
  | _ => none }
def costSymbolsRow : OpenClaim := { program := "ytlofoocgiomfbaa", sum := "0ea7e1e29183533f324461422a827c936e74e3cfa35b74e901f87fc382742a98", func := "presswork/pressworklaw17.CostSymbols", spec := "costSymbols", unfollowed := true, recurses := true, plainKeys := false, apart := false }
def CostSymbolsSaid : Prop := costSymbolsRow.holds Try.pinned (OpenSpec.ofChange costSymbolsSpec)

/-- ITS FALSE NEIGHBOUR: 'it returns false'. Refute it at one input. -/
def costSymbolsWrong : ChangeSpec := { name := "costSymbols", fn := fun _ => fun
  | [d1, d2, d3] => { results := [.lit (.bool false)], args := [d1, d2, d3] }
  | _ => none }
def CostSymbolsWrongFalsely : Prop := costSymbolsRow.holds Try.pinned (OpenSpec.ofChange costSymbolsWrong)

/-- 'pressworklaw17.CostStored': WHATEVER THE INPUT: true; the input reads as it did. -/
def costStoredSpec : ChangeSpec := { name := "costStored", fn := fun _ => fun
  | [d1, d2] => { results := [.lit (.bool true)], args := [d1, d2] }
  | _ => none }
def costStoredRow : OpenClaim := { program := "ytlofoocgiomfbaa", sum := "0ea7e1e29183533f324461422a827c936e74e3cfa35b74e901f87fc382742a98", func := "presswork/pressworklaw17.CostStored", spec := "costStored", unfollowed := true, recurses := true, plainKeys := false, apart := false }
def CostStoredSaid : Prop := costStoredRow.holds Try.pinned (OpenSpec.ofChange costStoredSpec)

/-- ITS FALSE NEIGHBOUR: 'it returns false'. Refute it at one input. -/
def costStoredWrong : ChangeSpec := { name := "costStored", fn := fun _ => fun
  | [d1, d2] => { results := [.lit (.bool false)], args := [d1, d2] }
  | _ => none }
def CostStoredWrongFalsely : Prop := costStoredRow.holds Try.pinned (OpenSpec.ofChange costStoredWrong)

/-- 'pressworklaw17.CostSums': WHATEVER THE INPUT: true; the input reads as it did. -/
def costSumsSpec : ChangeSpec := { name := "costSums", fn := fun _ => fun
  | [d1, d2, d3, d4] => { results := [.lit (.bool true)], args := [d1, d2, d3, d4] }
  | _ => none }
def costSumsRow : OpenClaim := { program := "ytlofoocgiomfbaa", sum := "0ea7e1e29183533f324461422a827c936e74e3cfa35b74e901f87fc382742a98", func := "presswork/pressworklaw17.CostSums", spec := "costSums", unfollowed := true, recurses := true, plainKeys := false, apart := false }
def CostSumsSaid : Prop := costSumsRow.holds Try.pinned (OpenSpec.ofChange costSumsSpec)

/-- ITS FALSE NEIGHBOUR: 'it returns false'. Refute it at one input. -/
def costSumsWrong : ChangeSpec := { name := "costSums", fn := fun _ => fun
  | [d1, d2, d3, d4] => { results := [.lit (.bool false)], args := [d1, d2, d3, d4] }
  | _ => none }
def CostSumsWrongFalsely : Prop := costSumsRow.holds Try.pinned (OpenSpec.ofChange costSumsWrong)

/-- 'pressworklaw10.InflateReads': WHATEVER THE INPUT: true; the input reads as it did. -/
def inflateReadsSpec : ChangeSpec := { name := "inflateReads", fn := fun _ => fun
  | [d1, d2] => { results := [.lit (.bool true)], args := [d1, d2] }
  | _ => none }
def inflateReadsRow : OpenClaim := { program := "ytlofoocgiomfbaa", sum := "0ea7e1e29183533f324461422a827c936e74e3cfa35b74e901f87fc382742a98", func := "presswork/pressworklaw10.InflateReads", spec := "inflateReads", unfollowed := true, recurses := true, plainKeys := false, apart := false }
def InflateReadsSaid : Prop := inflateReadsRow.holds Try.pinned (OpenSpec.ofChange inflateReadsSpec)

/-- ITS FALSE NEIGHBOUR: 'it returns false'. Refute it at one input. -/
def inflateReadsWrong : ChangeSpec := { name := "inflateReads", fn := fun _ => fun
  | [d1, d2] => { results := [.lit (.bool false)], args := [d1, d2] }
  | _ => none }
def InflateReadsWrongFalsely : Prop := inflateReadsRow.holds Try.pinned (OpenSpec.ofChange inflateReadsWrong)

/-- 'pressworklaw10.InflateKeeps': WHATEVER THE INPUT: true; the input reads as it did. -/
def inflateKeepsSpec : ChangeSpec := { name := "inflateKeeps", fn := fun _ => fun
  | [d1, d2, d3] => { results := [.lit (.bool true)], args := [d1, d2, d3] }
  | _ => none }
def inflateKeepsRow : OpenClaim := { program := "ytlofoocgiomfbaa", sum := "0ea7e1e29183533f324461422a827c936e74e3cfa35b74e901f87fc382742a98", func := "presswork/pressworklaw10.InflateKeeps", spec := "inflateKeeps", unfollowed := true, recurses := true, plainKeys := false, apart := false }
def InflateKeepsSaid : Prop := inflateKeepsRow.holds Try.pinned (OpenSpec.ofChange inflateKeepsSpec)

/-- ITS FALSE NEIGHBOUR: 'it returns false'. Refute it at one input. -/
def inflateKeepsWrong : ChangeSpec := { name := "inflateKeeps", fn := fun _ => fun
  | [d1, d2, d3] => { results := [.lit (.bool false)], args := [d1, d2, d3] }
  | _ => none }
def InflateKeepsWrongFalsely : Prop := inflateKeepsRow.holds Try.pinned (OpenSpec.ofChange inflateKeepsWrong)

/-- 'pressworklaw10.InflateAhead': WHATEVER THE INPUT: true; the input reads as it did. -/
def inflateAheadSpec : ChangeSpec := { name := "inflateAhead", fn := fun _ => fun
  | [d1, d2] => { results := [.lit (.bool true)], args := [d1, d2] }
  | _ => none }
def inflateAheadRow : OpenClaim := { program := "ytlofoocgiomfbaa", sum := "0ea7e1e29183533f324461422a827c936e74e3cfa35b74e901f87fc382742a98", func := "presswork/pressworklaw10.InflateAhead", spec := "inflateAhead", unfollowed := true, recurses := true, plainKeys := false, apart := false }
def InflateAheadSaid : Prop := inflateAheadRow.holds Try.pinned (OpenSpec.ofChange inflateAheadSpec)

/-- ITS FALSE NEIGHBOUR: 'it returns false'. Refute it at one input. -/
def inflateAheadWrong : ChangeSpec := { name := "inflateAhead", fn := fun _ => fun
  | [d1, d2] => { results := [.lit (.bool false)], args := [d1, d2] }
  | _ => none }
def InflateAheadWrongFalsely : Prop := inflateAheadRow.holds Try.pinned (OpenSpec.ofChange inflateAheadWrong)

/-- 'pressworklaw10.InflateCuts': WHATEVER THE INPUT: true; the input reads as it did. -/
def inflateCutsSpec : ChangeSpec := { name := "inflateCuts", fn := fun _ => fun
  | [d1, d2, d3] => { results := [.lit (.bool true)], args := [d1, d2, d3] }
  | _ => none }
def inflateCutsRow : OpenClaim := { program := "ytlofoocgiomfbaa", sum := "0ea7e1e29183533f324461422a827c936e74e3cfa35b74e901f87fc382742a98", func := "presswork/pressworklaw10.InflateCuts", spec := "inflateCuts", unfollowed := true, recurses := true, plainKeys := false, apart := false }
def InflateCutsSaid : Prop := inflateCutsRow.holds Try.pinned (OpenSpec.ofChange inflateCutsSpec)

/-- ITS FALSE NEIGHBOUR: 'it returns false'. Refute it at one input. -/
def inflateCutsWrong : ChangeSpec := { name := "inflateCuts", fn := fun _ => fun
  | [d1, d2, d3] => { results := [.lit (.bool false)], args := [d1, d2, d3] }
  | _ => none }
def InflateCutsWrongFalsely : Prop := inflateCutsRow.holds Try.pinned (OpenSpec.ofChange inflateCutsWrong)

/-- 'pressworklaw10.InflateKnown': WHATEVER THE INPUT: true; the input reads as it did. -/
def inflateKnownSpec : ChangeSpec := { name := "inflateKnown", fn := fun _ => fun
  | [] => { results := [.lit (.bool true)], args := [] }
  | _ => none }
def inflateKnownRow : OpenClaim := { program := "ytlofoocgiomfbaa", sum := "0ea7e1e29183533f324461422a827c936e74e3cfa35b74e901f87fc382742a98", func := "presswork/pressworklaw10.InflateKnown", spec := "inflateKnown", unfollowed := true, recurses := true, plainKeys := false, apart := false }
def InflateKnownSaid : Prop := inflateKnownRow.holds Try.pinned (OpenSpec.ofChange inflateKnownSpec)

/-- ITS FALSE NEIGHBOUR: 'it returns false'. Refute it at one input. -/
def inflateKnownWrong : ChangeSpec := { name := "inflateKnown", fn := fun _ => fun
  | [] => { results := [.lit (.bool false)], args := [] }
  | _ => none }
def InflateKnownWrongFalsely : Prop := inflateKnownRow.holds Try.pinned (OpenSpec.ofChange inflateKnownWrong)

/- THE SECOND FORM. 'bulk': how many values and letters a reading holds, each counted each time it is reached (what is shared counts as often as it is met; a slice's spare places count too). A statement '..UptoSaid' is the law's where the arguments, and the package variables that the reading takes, are together of bulk at most 1048576: NARROWER than '..Said'. Prove '..Said' where nothing that the law and all that it calls make is longer than what came in: it says more and counts as full. Else prove '..UptoSaid'. A law counts once. -/
mutual
def uptoBulk {H : Type} : DataW H → Nat
  | .lit (.string bytes) => bytes.length + 1
  | .lit _ => 1
  | .nil => 1
  | .ptr d => uptoBulk d + 1
  | .slice elems spare => uptoBulkAll elems + uptoBulkAll spare + 1
  | .agg parts => uptoBulkAll parts + 1
  | .iface _ d => uptoBulk d + 1
  | .map entries => uptoBulkEntries entries + 1
  | .held _ => 1
def uptoBulkAll {H : Type} : List (DataW H) → Nat
  | [] => 0
  | d :: r => uptoBulk d + uptoBulkAll r
def uptoBulkEntries {H : Type} : List (Lit × DataW H) → Nat
  | [] => 0
  | x :: r => uptoBulkEntry x + uptoBulkEntries r
def uptoBulkEntry {H : Type} : Lit × DataW H → Nat
  | (.string bytes, d) => bytes.length + uptoBulk d + 1
  | (_, d) => uptoBulk d + 1
 end
def uptoSmall : (H : Type) → List (DataW H) → Bool := fun _ ds => decide (uptoBulkAll ds ≤ 1048576)
def OpenSpec.upto (s : _root_.Go.ChangeSpec) : _root_.Go.OpenSpec := { _root_.Go.OpenSpec.ofChange s with cond := some uptoSmall }

/-- 'pressworklaw17.CostSymbols', WHERE WHAT IT READS IS OF BULK AT MOST 1048576: true; the input reads as it did. -/
def costSymbolsUptoRow : OpenClaim := { program := "ytlofoocgiomfbaa", sum := "0ea7e1e29183533f324461422a827c936e74e3cfa35b74e901f87fc382742a98", func := "presswork/pressworklaw17.CostSymbols", spec := "costSymbols", unfollowed := true, recurses := true, plainKeys := false, apart := false, narrowed := true }
def CostSymbolsUptoSaid : Prop := costSymbolsUptoRow.holds Try.pinned (OpenSpec.upto costSymbolsSpec)

/-- 'pressworklaw17.CostStored', WHERE WHAT IT READS IS OF BULK AT MOST 1048576: true; the input reads as it did. -/
def costStoredUptoRow : OpenClaim := { program := "ytlofoocgiomfbaa", sum := "0ea7e1e29183533f324461422a827c936e74e3cfa35b74e901f87fc382742a98", func := "presswork/pressworklaw17.CostStored", spec := "costStored", unfollowed := true, recurses := true, plainKeys := false, apart := false, narrowed := true }
def CostStoredUptoSaid : Prop := costStoredUptoRow.holds Try.pinned (OpenSpec.upto costStoredSpec)

/-- 'pressworklaw17.CostSums', WHERE WHAT IT READS IS OF BULK AT MOST 1048576: true; the input reads as it did. -/
def costSumsUptoRow : OpenClaim := { program := "ytlofoocgiomfbaa", sum := "0ea7e1e29183533f324461422a827c936e74e3cfa35b74e901f87fc382742a98", func := "presswork/pressworklaw17.CostSums", spec := "costSums", unfollowed := true, recurses := true, plainKeys := false, apart := false, narrowed := true }
def CostSumsUptoSaid : Prop := costSumsUptoRow.holds Try.pinned (OpenSpec.upto costSumsSpec)

/-- 'pressworklaw10.InflateReads', WHERE WHAT IT READS IS OF BULK AT MOST 1048576: true; the input reads as it did. -/
def inflateReadsUptoRow : OpenClaim := { program := "ytlofoocgiomfbaa", sum := "0ea7e1e29183533f324461422a827c936e74e3cfa35b74e901f87fc382742a98", func := "presswork/pressworklaw10.InflateReads", spec := "inflateReads", unfollowed := true, recurses := true, plainKeys := false, apart := false, narrowed := true }
def InflateReadsUptoSaid : Prop := inflateReadsUptoRow.holds Try.pinned (OpenSpec.upto inflateReadsSpec)

/-- 'pressworklaw10.InflateKeeps', WHERE WHAT IT READS IS OF BULK AT MOST 1048576: true; the input reads as it did. -/
def inflateKeepsUptoRow : OpenClaim := { program := "ytlofoocgiomfbaa", sum := "0ea7e1e29183533f324461422a827c936e74e3cfa35b74e901f87fc382742a98", func := "presswork/pressworklaw10.InflateKeeps", spec := "inflateKeeps", unfollowed := true, recurses := true, plainKeys := false, apart := false, narrowed := true }
def InflateKeepsUptoSaid : Prop := inflateKeepsUptoRow.holds Try.pinned (OpenSpec.upto inflateKeepsSpec)

/-- 'pressworklaw10.InflateAhead', WHERE WHAT IT READS IS OF BULK AT MOST 1048576: true; the input reads as it did. -/
def inflateAheadUptoRow : OpenClaim := { program := "ytlofoocgiomfbaa", sum := "0ea7e1e29183533f324461422a827c936e74e3cfa35b74e901f87fc382742a98", func := "presswork/pressworklaw10.InflateAhead", spec := "inflateAhead", unfollowed := true, recurses := true, plainKeys := false, apart := false, narrowed := true }
def InflateAheadUptoSaid : Prop := inflateAheadUptoRow.holds Try.pinned (OpenSpec.upto inflateAheadSpec)

/-- 'pressworklaw10.InflateCuts', WHERE WHAT IT READS IS OF BULK AT MOST 1048576: true; the input reads as it did. -/
def inflateCutsUptoRow : OpenClaim := { program := "ytlofoocgiomfbaa", sum := "0ea7e1e29183533f324461422a827c936e74e3cfa35b74e901f87fc382742a98", func := "presswork/pressworklaw10.InflateCuts", spec := "inflateCuts", unfollowed := true, recurses := true, plainKeys := false, apart := false, narrowed := true }
def InflateCutsUptoSaid : Prop := inflateCutsUptoRow.holds Try.pinned (OpenSpec.upto inflateCutsSpec)

/-- 'pressworklaw10.InflateKnown', WHERE WHAT IT READS IS OF BULK AT MOST 1048576: true; the input reads as it did. -/
def inflateKnownUptoRow : OpenClaim := { program := "ytlofoocgiomfbaa", sum := "0ea7e1e29183533f324461422a827c936e74e3cfa35b74e901f87fc382742a98", func := "presswork/pressworklaw10.InflateKnown", spec := "inflateKnown", unfollowed := true, recurses := true, plainKeys := false, apart := false, narrowed := true }
def InflateKnownUptoSaid : Prop := inflateKnownUptoRow.holds Try.pinned (OpenSpec.upto inflateKnownSpec)

end Rows
end Go.Proofs.Ytlofoocgiomfbaa
