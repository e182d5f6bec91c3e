/-
  No cell of these rows narrows 'for every input' (looked for: loops, veiled, ifaces, maps, wideKeys, modest, calm, conditions, laid).
  DERIVED. THE GIVEN ROWS OF THIS SEAT. 9 by the template 'for every input the law returns true; each argument reads behind the call as it read before'; 0 by the template 'total and deterministic' (their statements: YtmgoeokdlklabaaTotals.lean).
  GIVEN WITH THE SEED: the statements are not yours to turn. If you find one false, say at which input.
  Laid BY PROGRAM, IN A SANDBOX (cutbox-rows.mjs): the forced cells as the released guide's own fill.sh prints them over the translation 7350d5cc78ee8333… (all of the seat's roots in one cut). By AI agents, Wed Nov 11 2026. No macro, syntax, notation, axiom, sorry.
-/
import Derived.Test.YtmgoeokdlklabaaChecked
import GoSem.Claim
import GoSem.ClaimJoined
import GoSem.ClaimMapViews
import Derived.JoinedTies
import Derived.KernelRfl
namespace Go.Proofs.Ytmgoeokdlklabaa
/- THE CELL 'sum', in the pinned program and in every row, IS THE sha256 OF THE DUMP (.gsa) THAT YtmgoeokdlklabaaProg.lean LOADS. Nothing in Lean hashes anything: it is a label: what it is worth is what the hold of that sum in a sandbox is worth. -/
noncomputable def Try.pinned : Pinned := { name := "ytmgoeokdlklabaa", sum := "7350d5cc78ee8333d1965fb17b6eb9265445da703977775fc71f2dcb10b270b3", checked := Try.checked }
namespace Rows
def none {H : Type} : Left H := { results := [], args := [] }

/-- 'pressworklaw09.HeaderPuts': WHATEVER THE INPUT: true; the input reads as it did. -/
def headerPutsSpec : ChangeSpec := { name := "headerPuts", fn := fun _ => fun
  | [d1, d2, d3] => { results := [.lit (.bool true)], args := [d1, d2, d3] }
  | _ => none }
def headerPutsRow : OpenClaim := { program := "ytmgoeokdlklabaa", sum := "7350d5cc78ee8333d1965fb17b6eb9265445da703977775fc71f2dcb10b270b3", func := "presswork/pressworklaw09.HeaderPuts", spec := "headerPuts", unfollowed := true, recurses := true, plainKeys := false, apart := false }
def HeaderPutsSaid : Prop := headerPutsRow.holds Try.pinned (OpenSpec.ofChange headerPutsSpec)

/-- ITS FALSE NEIGHBOUR: 'it returns false'. Refute it at one input. -/
def headerPutsWrong : ChangeSpec := { name := "headerPuts", fn := fun _ => fun
  | [d1, d2, d3] => { results := [.lit (.bool false)], args := [d1, d2, d3] }
  | _ => none }
def HeaderPutsWrongFalsely : Prop := headerPutsRow.holds Try.pinned (OpenSpec.ofChange headerPutsWrong)

/-- 'pressworklaw09.HeaderCut': WHATEVER THE INPUT: true; the input reads as it did. -/
def headerCutSpec : ChangeSpec := { name := "headerCut", fn := fun _ => fun
  | [d1, d2, d3] => { results := [.lit (.bool true)], args := [d1, d2, d3] }
  | _ => none }
def headerCutRow : OpenClaim := { program := "ytmgoeokdlklabaa", sum := "7350d5cc78ee8333d1965fb17b6eb9265445da703977775fc71f2dcb10b270b3", func := "presswork/pressworklaw09.HeaderCut", spec := "headerCut", unfollowed := true, recurses := true, plainKeys := false, apart := false }
def HeaderCutSaid : Prop := headerCutRow.holds Try.pinned (OpenSpec.ofChange headerCutSpec)

/-- ITS FALSE NEIGHBOUR: 'it returns false'. Refute it at one input. -/
def headerCutWrong : ChangeSpec := { name := "headerCut", fn := fun _ => fun
  | [d1, d2, d3] => { results := [.lit (.bool false)], args := [d1, d2, d3] }
  | _ => none }
def HeaderCutWrongFalsely : Prop := headerCutRow.holds Try.pinned (OpenSpec.ofChange headerCutWrong)

/-- 'pressworklaw09.HeaderSame': WHATEVER THE INPUT: true; the input reads as it did. -/
def headerSameSpec : ChangeSpec := { name := "headerSame", fn := fun _ => fun
  | [d] => { results := [.lit (.bool true)], args := [d] }
  | _ => none }
def headerSameRow : OpenClaim := { program := "ytmgoeokdlklabaa", sum := "7350d5cc78ee8333d1965fb17b6eb9265445da703977775fc71f2dcb10b270b3", func := "presswork/pressworklaw09.HeaderSame", spec := "headerSame", unfollowed := true, recurses := true, plainKeys := false, apart := false }
def HeaderSameSaid : Prop := headerSameRow.holds Try.pinned (OpenSpec.ofChange headerSameSpec)

/-- ITS FALSE NEIGHBOUR: 'it returns false'. Refute it at one input. -/
def headerSameWrong : ChangeSpec := { name := "headerSame", fn := fun _ => fun
  | [d] => { results := [.lit (.bool false)], args := [d] }
  | _ => none }
def HeaderSameWrongFalsely : Prop := headerSameRow.holds Try.pinned (OpenSpec.ofChange headerSameWrong)

/-- 'pressworklaw09.HeaderKnown': WHATEVER THE INPUT: true; the input reads as it did. -/
def headerKnownSpec : ChangeSpec := { name := "headerKnown", fn := fun _ => fun
  | [] => { results := [.lit (.bool true)], args := [] }
  | _ => none }
def headerKnownRow : OpenClaim := { program := "ytmgoeokdlklabaa", sum := "7350d5cc78ee8333d1965fb17b6eb9265445da703977775fc71f2dcb10b270b3", func := "presswork/pressworklaw09.HeaderKnown", spec := "headerKnown", unfollowed := true, recurses := true, plainKeys := false, apart := false }
def HeaderKnownSaid : Prop := headerKnownRow.holds Try.pinned (OpenSpec.ofChange headerKnownSpec)

/-- ITS FALSE NEIGHBOUR: 'it returns false'. Refute it at one input. -/
def headerKnownWrong : ChangeSpec := { name := "headerKnown", fn := fun _ => fun
  | [] => { results := [.lit (.bool false)], args := [] }
  | _ => none }
def HeaderKnownWrongFalsely : Prop := headerKnownRow.holds Try.pinned (OpenSpec.ofChange headerKnownWrong)

/-- 'pressworklaw09.HeaderGets': WHATEVER THE INPUT: true; the input reads as it did. -/
def headerGetsSpec : ChangeSpec := { name := "headerGets", fn := fun _ => fun
  | [d1, d2] => { results := [.lit (.bool true)], args := [d1, d2] }
  | _ => none }
def headerGetsRow : OpenClaim := { program := "ytmgoeokdlklabaa", sum := "7350d5cc78ee8333d1965fb17b6eb9265445da703977775fc71f2dcb10b270b3", func := "presswork/pressworklaw09.HeaderGets", spec := "headerGets", unfollowed := true, recurses := true, plainKeys := false, apart := false }
def HeaderGetsSaid : Prop := headerGetsRow.holds Try.pinned (OpenSpec.ofChange headerGetsSpec)

/-- ITS FALSE NEIGHBOUR: 'it returns false'. Refute it at one input. -/
def headerGetsWrong : ChangeSpec := { name := "headerGets", fn := fun _ => fun
  | [d1, d2] => { results := [.lit (.bool false)], args := [d1, d2] }
  | _ => none }
def HeaderGetsWrongFalsely : Prop := headerGetsRow.holds Try.pinned (OpenSpec.ofChange headerGetsWrong)

/-- 'pressworklaw09.HeaderBack': WHATEVER THE INPUT: true; the input reads as it did. -/
def headerBackSpec : ChangeSpec := { name := "headerBack", fn := fun _ => fun
  | [d1, d2, d3, d4, d5] => { results := [.lit (.bool true)], args := [d1, d2, d3, d4, d5] }
  | _ => none }
def headerBackRow : OpenClaim := { program := "ytmgoeokdlklabaa", sum := "7350d5cc78ee8333d1965fb17b6eb9265445da703977775fc71f2dcb10b270b3", func := "presswork/pressworklaw09.HeaderBack", spec := "headerBack", unfollowed := true, recurses := true, plainKeys := false, apart := false }
def HeaderBackSaid : Prop := headerBackRow.holds Try.pinned (OpenSpec.ofChange headerBackSpec)

/-- ITS FALSE NEIGHBOUR: 'it returns false'. Refute it at one input. -/
def headerBackWrong : ChangeSpec := { name := "headerBack", fn := fun _ => fun
  | [d1, d2, d3, d4, d5] => { results := [.lit (.bool false)], args := [d1, d2, d3, d4, d5] }
  | _ => none }
def HeaderBackWrongFalsely : Prop := headerBackRow.holds Try.pinned (OpenSpec.ofChange headerBackWrong)

/-- 'pressworklaw17.CostBest': WHATEVER THE INPUT: true; the input reads as it did. -/
def costBestSpec : ChangeSpec := { name := "costBest", fn := fun _ => fun
  | [d1, d2] => { results := [.lit (.bool true)], args := [d1, d2] }
  | _ => none }
def costBestRow : OpenClaim := { program := "ytmgoeokdlklabaa", sum := "7350d5cc78ee8333d1965fb17b6eb9265445da703977775fc71f2dcb10b270b3", func := "presswork/pressworklaw17.CostBest", spec := "costBest", unfollowed := true, recurses := true, plainKeys := false, apart := false }
def CostBestSaid : Prop := costBestRow.holds Try.pinned (OpenSpec.ofChange costBestSpec)

/-- ITS FALSE NEIGHBOUR: 'it returns false'. Refute it at one input. -/
def costBestWrong : ChangeSpec := { name := "costBest", fn := fun _ => fun
  | [d1, d2] => { results := [.lit (.bool false)], args := [d1, d2] }
  | _ => none }
def CostBestWrongFalsely : Prop := costBestRow.holds Try.pinned (OpenSpec.ofChange costBestWrong)

/-- 'pressworklaw17.CostDynamic': WHATEVER THE INPUT: true; the input reads as it did. -/
def costDynamicSpec : ChangeSpec := { name := "costDynamic", fn := fun _ => fun
  | [d] => { results := [.lit (.bool true)], args := [d] }
  | _ => none }
def costDynamicRow : OpenClaim := { program := "ytmgoeokdlklabaa", sum := "7350d5cc78ee8333d1965fb17b6eb9265445da703977775fc71f2dcb10b270b3", func := "presswork/pressworklaw17.CostDynamic", spec := "costDynamic", unfollowed := true, recurses := true, plainKeys := false, apart := false }
def CostDynamicSaid : Prop := costDynamicRow.holds Try.pinned (OpenSpec.ofChange costDynamicSpec)

/-- ITS FALSE NEIGHBOUR: 'it returns false'. Refute it at one input. -/
def costDynamicWrong : ChangeSpec := { name := "costDynamic", fn := fun _ => fun
  | [d] => { results := [.lit (.bool false)], args := [d] }
  | _ => none }
def CostDynamicWrongFalsely : Prop := costDynamicRow.holds Try.pinned (OpenSpec.ofChange costDynamicWrong)

/-- 'pressworklaw17.CostKnown': WHATEVER THE INPUT: true; the input reads as it did. -/
def costKnownSpec : ChangeSpec := { name := "costKnown", fn := fun _ => fun
  | [] => { results := [.lit (.bool true)], args := [] }
  | _ => none }
def costKnownRow : OpenClaim := { program := "ytmgoeokdlklabaa", sum := "7350d5cc78ee8333d1965fb17b6eb9265445da703977775fc71f2dcb10b270b3", func := "presswork/pressworklaw17.CostKnown", spec := "costKnown", unfollowed := true, recurses := true, plainKeys := false, apart := false }
def CostKnownSaid : Prop := costKnownRow.holds Try.pinned (OpenSpec.ofChange costKnownSpec)

/-- ITS FALSE NEIGHBOUR: 'it returns false'. Refute it at one input. -/
def costKnownWrong : ChangeSpec := { name := "costKnown", fn := fun _ => fun
  | [] => { results := [.lit (.bool false)], args := [] }
  | _ => none }
def CostKnownWrongFalsely : Prop := costKnownRow.holds Try.pinned (OpenSpec.ofChange costKnownWrong)

/- THE SECOND FORM. 'bulk': how many values and letters a reading holds, each counted each time it is reached (what is shared counts as often as it is met; a slice's spare places count too). A statement '..UptoSaid' is the law's where the arguments, and the package variables that the reading takes, are together of bulk at most 1048576: NARROWER than '..Said'. Prove '..Said' where nothing that the law and all that it calls make is longer than what came in: it says more and counts as full. Else prove '..UptoSaid'. A law counts once. -/
mutual
def uptoBulk {H : Type} : DataW H → Nat
  | .lit (.string bytes) => bytes.length + 1
  | .lit _ => 1
  | .nil => 1
  | .ptr d => uptoBulk d + 1
  | .slice elems spare => uptoBulkAll elems + uptoBulkAll spare + 1
  | .agg parts => uptoBulkAll parts + 1
  | .iface _ d => uptoBulk d + 1
  | .map entries => uptoBulkEntries entries + 1
  | .held _ => 1
def uptoBulkAll {H : Type} : List (DataW H) → Nat
  | [] => 0
  | d :: r => uptoBulk d + uptoBulkAll r
def uptoBulkEntries {H : Type} : List (Lit × DataW H) → Nat
  | [] => 0
  | x :: r => uptoBulkEntry x + uptoBulkEntries r
def uptoBulkEntry {H : Type} : Lit × DataW H → Nat
  | (.string bytes, d) => bytes.length + uptoBulk d + 1
  | (_, d) => uptoBulk d + 1
 end
def uptoSmall : (H : Type) → List (DataW H) → Bool := fun _ ds => decide (uptoBulkAll ds ≤ 1048576)
def OpenSpec.upto (s : _root_.Go.ChangeSpec) : _root_.Go.OpenSpec := { _root_.Go.OpenSpec.ofChange s with cond := some uptoSmall }

/-- 'pressworklaw09.HeaderPuts', WHERE WHAT IT READS IS OF BULK AT MOST 1048576: true; the input reads as it did. -/
def headerPutsUptoRow : OpenClaim := { program := "ytmgoeokdlklabaa", sum := "7350d5cc78ee8333d1965fb17b6eb9265445da703977775fc71f2dcb10b270b3", func := "presswork/pressworklaw09.HeaderPuts", spec := "headerPuts", unfollowed := true, recurses := true, plainKeys := false, apart := false, narrowed := true }
def HeaderPutsUptoSaid : Prop := headerPutsUptoRow.holds Try.pinned (OpenSpec.upto headerPutsSpec)

/-- 'pressworklaw09.HeaderCut', WHERE WHAT IT READS IS OF BULK AT MOST 1048576: true; the input reads as it did. -/
def headerCutUptoRow : OpenClaim := { program := "ytmgoeokdlklabaa", sum := "7350d5cc78ee8333d1965fb17b6eb9265445da703977775fc71f2dcb10b270b3", func := "presswork/pressworklaw09.HeaderCut", spec := "headerCut", unfollowed := true, recurses := true, plainKeys := false, apart := false, narrowed := true }
def HeaderCutUptoSaid : Prop := headerCutUptoRow.holds Try.pinned (OpenSpec.upto headerCutSpec)

/-- 'pressworklaw09.HeaderSame', WHERE WHAT IT READS IS OF BULK AT MOST 1048576: true; the input reads as it did. -/
def headerSameUptoRow : OpenClaim := { program := "ytmgoeokdlklabaa", sum := "7350d5cc78ee8333d1965fb17b6eb9265445da703977775fc71f2dcb10b270b3", func := "presswork/pressworklaw09.HeaderSame", spec := "headerSame", unfollowed := true, recurses := true, plainKeys := false, apart := false, narrowed := true }
def HeaderSameUptoSaid : Prop := headerSameUptoRow.holds Try.pinned (OpenSpec.upto headerSameSpec)

/-- 'pressworklaw09.HeaderKnown', WHERE WHAT IT READS IS OF BULK AT MOST 1048576: true; the input reads as it did. -/
def headerKnownUptoRow : OpenClaim := { program := "ytmgoeokdlklabaa", sum := "7350d5cc78ee8333d1965fb17b6eb9265445da703977775fc71f2dcb10b270b3", func := "presswork/pressworklaw09.HeaderKnown", spec := "headerKnown", unfollowed := true, recurses := true, plainKeys := false, apart := false, narrowed := true }
def HeaderKnownUptoSaid : Prop := headerKnownUptoRow.holds Try.pinned (OpenSpec.upto headerKnownSpec)

/-- 'pressworklaw09.HeaderGets', WHERE WHAT IT READS IS OF BULK AT MOST 1048576: true; the input reads as it did. -/
def headerGetsUptoRow : OpenClaim := { program := "ytmgoeokdlklabaa", sum := "7350d5cc78ee8333d1965fb17b6eb9265445da703977775fc71f2dcb10b270b3", func := "presswork/pressworklaw09.HeaderGets", spec := "headerGets", unfollowed := true, recurses := true, plainKeys := false, apart := false, narrowed := true }
def HeaderGetsUptoSaid : Prop := headerGetsUptoRow.holds Try.pinned (OpenSpec.upto headerGetsSpec)

/-- 'pressworklaw09.HeaderBack', WHERE WHAT IT READS IS OF BULK AT MOST 1048576: true; the input reads as it did. -/
def headerBackUptoRow : OpenClaim := { program := "ytmgoeokdlklabaa", sum := "7350d5cc78ee8333d1965fb17b6eb9265445da703977775fc71f2dcb10b270b3", func := "presswork/pressworklaw09.HeaderBack", spec := "headerBack", unfollowed := true, recurses := true, plainKeys := false, apart := false, narrowed := true }
def HeaderBackUptoSaid : Prop := headerBackUptoRow.holds Try.pinned (OpenSpec.upto headerBackSpec)

/-- 'pressworklaw17.CostBest', WHERE WHAT IT READS IS OF BULK AT MOST 1048576: true; the input reads as it did. -/
def costBestUptoRow : OpenClaim := { program := "ytmgoeokdlklabaa", sum := "7350d5cc78ee8333d1965fb17b6eb9265445da703977775fc71f2dcb10b270b3", func := "presswork/pressworklaw17.CostBest", spec := "costBest", unfollowed := true, recurses := true, plainKeys := false, apart := false, narrowed := true }
def CostBestUptoSaid : Prop := costBestUptoRow.holds Try.pinned (OpenSpec.upto costBestSpec)

/-- 'pressworklaw17.CostDynamic', WHERE WHAT IT READS IS OF BULK AT MOST 1048576: true; the input reads as it did. -/
def costDynamicUptoRow : OpenClaim := { program := "ytmgoeokdlklabaa", sum := "7350d5cc78ee8333d1965fb17b6eb9265445da703977775fc71f2dcb10b270b3", func := "presswork/pressworklaw17.CostDynamic", spec := "costDynamic", unfollowed := true, recurses := true, plainKeys := false, apart := false, narrowed := true }
def CostDynamicUptoSaid : Prop := costDynamicUptoRow.holds Try.pinned (OpenSpec.upto costDynamicSpec)

/-- 'pressworklaw17.CostKnown', WHERE WHAT IT READS IS OF BULK AT MOST 1048576: true; the input reads as it did. -/
def costKnownUptoRow : OpenClaim := { program := "ytmgoeokdlklabaa", sum := "7350d5cc78ee8333d1965fb17b6eb9265445da703977775fc71f2dcb10b270b3", func := "presswork/pressworklaw17.CostKnown", spec := "costKnown", unfollowed := true, recurses := true, plainKeys := false, apart := false, narrowed := true }
def CostKnownUptoSaid : Prop := costKnownUptoRow.holds Try.pinned (OpenSpec.upto costKnownSpec)

end Rows
end Go.Proofs.Ytmgoeokdlklabaa
