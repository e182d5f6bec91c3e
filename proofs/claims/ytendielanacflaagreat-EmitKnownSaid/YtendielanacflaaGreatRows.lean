/-
  No cell of these rows narrows 'for every input' (looked for: loops, veiled, ifaces, maps, wideKeys, modest, calm, conditions, laid).
  DERIVED. THE GIVEN ROWS OF THIS SEAT. 5 by the template 'for every input the law returns true; each argument reads behind the call as it read before'; 0 by the template 'total and deterministic' (their statements: YtendielanacflaaGreatTotals.lean).
  GIVEN WITH THE SEED: the statements are not yours to turn. If you find one false, say at which input.
  Laid BY PROGRAM, IN A SANDBOX (cutbox-rows.mjs): the forced cells as the released guide's own fill.sh prints them over the translation e324af828f9362a4… (all of the seat's roots in one cut). By AI agents, Wed Nov 11 2026. No macro, syntax, notation, axiom, sorry.
-/
import Derived.Test.YtendielanacflaaGreatChecked
import GoSem.Claim
import GoSem.ClaimJoined
import GoSem.ClaimMapViews
import Derived.JoinedTies
import Derived.KernelRfl
namespace Go.Proofs.YtendielanacflaaGreat
/- THE CELL 'sum', in the pinned program and in every row, IS THE sha256 OF THE DUMP (.gsa) THAT YtendielanacflaaGreatProg.lean LOADS. Nothing in Lean hashes anything: it is a label: what it is worth is what the hold of that sum in a sandbox is worth. -/
noncomputable def Tryz.pinned : Pinned := { name := "ytendielanacflaagreat", sum := "e324af828f9362a4460ddfc91978da269ab7b2e304978f4e8835f44bca9022ca", checked := Tryz.checked }
namespace Rows
def none {H : Type} : Left H := { results := [], args := [] }

/-- 'pressworklaw18.EmitSizes': WHATEVER THE INPUT: true; the input reads as it did. -/
def emitSizesSpec : ChangeSpec := { name := "emitSizes", fn := fun _ => fun
  | [d1, d2] => { results := [.lit (.bool true)], args := [d1, d2] }
  | _ => none }
def emitSizesRow : OpenClaim := { program := "ytendielanacflaagreat", sum := "e324af828f9362a4460ddfc91978da269ab7b2e304978f4e8835f44bca9022ca", func := "presswork/pressworklaw18.EmitSizes", spec := "emitSizes", unfollowed := true, recurses := true, plainKeys := false, apart := false }
def EmitSizesSaid : Prop := emitSizesRow.holds Tryz.pinned (OpenSpec.ofChange emitSizesSpec)

/-- ITS FALSE NEIGHBOUR: 'it returns false'. Refute it at one input. -/
def emitSizesWrong : ChangeSpec := { name := "emitSizes", fn := fun _ => fun
  | [d1, d2] => { results := [.lit (.bool false)], args := [d1, d2] }
  | _ => none }
def EmitSizesWrongFalsely : Prop := emitSizesRow.holds Tryz.pinned (OpenSpec.ofChange emitSizesWrong)

/-- 'pressworklaw10.InflateLaid': WHATEVER THE INPUT: true; the input reads as it did. -/
def inflateLaidSpec : ChangeSpec := { name := "inflateLaid", fn := fun _ => fun
  | [d1, d2, d3] => { results := [.lit (.bool true)], args := [d1, d2, d3] }
  | _ => none }
def inflateLaidRow : OpenClaim := { program := "ytendielanacflaagreat", sum := "e324af828f9362a4460ddfc91978da269ab7b2e304978f4e8835f44bca9022ca", func := "presswork/pressworklaw10.InflateLaid", spec := "inflateLaid", unfollowed := true, recurses := true, plainKeys := false, apart := false }
def InflateLaidSaid : Prop := inflateLaidRow.holds Tryz.pinned (OpenSpec.ofChange inflateLaidSpec)

/-- ITS FALSE NEIGHBOUR: 'it returns false'. Refute it at one input. -/
def inflateLaidWrong : ChangeSpec := { name := "inflateLaid", fn := fun _ => fun
  | [d1, d2, d3] => { results := [.lit (.bool false)], args := [d1, d2, d3] }
  | _ => none }
def InflateLaidWrongFalsely : Prop := inflateLaidRow.holds Tryz.pinned (OpenSpec.ofChange inflateLaidWrong)

/-- 'pressworklaw18.EmitBack': WHATEVER THE INPUT: true; the input reads as it did. -/
def emitBackSpec : ChangeSpec := { name := "emitBack", fn := fun _ => fun
  | [d1, d2, d3] => { results := [.lit (.bool true)], args := [d1, d2, d3] }
  | _ => none }
def emitBackRow : OpenClaim := { program := "ytendielanacflaagreat", sum := "e324af828f9362a4460ddfc91978da269ab7b2e304978f4e8835f44bca9022ca", func := "presswork/pressworklaw18.EmitBack", spec := "emitBack", unfollowed := true, recurses := true, plainKeys := false, apart := false }
def EmitBackSaid : Prop := emitBackRow.holds Tryz.pinned (OpenSpec.ofChange emitBackSpec)

/-- ITS FALSE NEIGHBOUR: 'it returns false'. Refute it at one input. -/
def emitBackWrong : ChangeSpec := { name := "emitBack", fn := fun _ => fun
  | [d1, d2, d3] => { results := [.lit (.bool false)], args := [d1, d2, d3] }
  | _ => none }
def EmitBackWrongFalsely : Prop := emitBackRow.holds Tryz.pinned (OpenSpec.ofChange emitBackWrong)

/-- 'pressworklaw18.EmitRuns': WHATEVER THE INPUT: true; the input reads as it did. -/
def emitRunsSpec : ChangeSpec := { name := "emitRuns", fn := fun _ => fun
  | [d1, d2] => { results := [.lit (.bool true)], args := [d1, d2] }
  | _ => none }
def emitRunsRow : OpenClaim := { program := "ytendielanacflaagreat", sum := "e324af828f9362a4460ddfc91978da269ab7b2e304978f4e8835f44bca9022ca", func := "presswork/pressworklaw18.EmitRuns", spec := "emitRuns", unfollowed := true, recurses := true, plainKeys := false, apart := false }
def EmitRunsSaid : Prop := emitRunsRow.holds Tryz.pinned (OpenSpec.ofChange emitRunsSpec)

/-- ITS FALSE NEIGHBOUR: 'it returns false'. Refute it at one input. -/
def emitRunsWrong : ChangeSpec := { name := "emitRuns", fn := fun _ => fun
  | [d1, d2] => { results := [.lit (.bool false)], args := [d1, d2] }
  | _ => none }
def EmitRunsWrongFalsely : Prop := emitRunsRow.holds Tryz.pinned (OpenSpec.ofChange emitRunsWrong)

/-- 'pressworklaw18.EmitKnown': WHATEVER THE INPUT: true; the input reads as it did. -/
def emitKnownSpec : ChangeSpec := { name := "emitKnown", fn := fun _ => fun
  | [] => { results := [.lit (.bool true)], args := [] }
  | _ => none }
def emitKnownRow : OpenClaim := { program := "ytendielanacflaagreat", sum := "e324af828f9362a4460ddfc91978da269ab7b2e304978f4e8835f44bca9022ca", func := "presswork/pressworklaw18.EmitKnown", spec := "emitKnown", unfollowed := true, recurses := true, plainKeys := false, apart := false }
def EmitKnownSaid : Prop := emitKnownRow.holds Tryz.pinned (OpenSpec.ofChange emitKnownSpec)

/-- ITS FALSE NEIGHBOUR: 'it returns false'. Refute it at one input. -/
def emitKnownWrong : ChangeSpec := { name := "emitKnown", fn := fun _ => fun
  | [] => { results := [.lit (.bool false)], args := [] }
  | _ => none }
def EmitKnownWrongFalsely : Prop := emitKnownRow.holds Tryz.pinned (OpenSpec.ofChange emitKnownWrong)

/- THE SECOND FORM. 'bulk': how many values and letters a reading holds, each counted each time it is reached (what is shared counts as often as it is met; a slice's spare places count too). A statement '..UptoSaid' is the law's where the arguments, and the package variables that the reading takes, are together of bulk at most 1048576: NARROWER than '..Said'. Prove '..Said' where nothing that the law and all that it calls make is longer than what came in: it says more and counts as full. Else prove '..UptoSaid'. A law counts once. -/
mutual
def uptoBulk {H : Type} : DataW H → Nat
  | .lit (.string bytes) => bytes.length + 1
  | .lit _ => 1
  | .nil => 1
  | .ptr d => uptoBulk d + 1
  | .slice elems spare => uptoBulkAll elems + uptoBulkAll spare + 1
  | .agg parts => uptoBulkAll parts + 1
  | .iface _ d => uptoBulk d + 1
  | .map entries => uptoBulkEntries entries + 1
  | .held _ => 1
def uptoBulkAll {H : Type} : List (DataW H) → Nat
  | [] => 0
  | d :: r => uptoBulk d + uptoBulkAll r
def uptoBulkEntries {H : Type} : List (Lit × DataW H) → Nat
  | [] => 0
  | x :: r => uptoBulkEntry x + uptoBulkEntries r
def uptoBulkEntry {H : Type} : Lit × DataW H → Nat
  | (.string bytes, d) => bytes.length + uptoBulk d + 1
  | (_, d) => uptoBulk d + 1
 end
def uptoSmall : (H : Type) → List (DataW H) → Bool := fun _ ds => decide (uptoBulkAll ds ≤ 1048576)
def OpenSpec.upto (s : _root_.Go.ChangeSpec) : _root_.Go.OpenSpec := { _root_.Go.OpenSpec.ofChange s with cond := some uptoSmall }

/-- 'pressworklaw18.EmitSizes', WHERE WHAT IT READS IS OF BULK AT MOST 1048576: true; the input reads as it did. -/
def emitSizesUptoRow : OpenClaim := { program := "ytendielanacflaagreat", sum := "e324af828f9362a4460ddfc91978da269ab7b2e304978f4e8835f44bca9022ca", func := "presswork/pressworklaw18.EmitSizes", spec := "emitSizes", unfollowed := true, recurses := true, plainKeys := false, apart := false, narrowed := true }
def EmitSizesUptoSaid : Prop := emitSizesUptoRow.holds Tryz.pinned (OpenSpec.upto emitSizesSpec)

/-- 'pressworklaw10.InflateLaid', WHERE WHAT IT READS IS OF BULK AT MOST 1048576: true; the input reads as it did. -/
def inflateLaidUptoRow : OpenClaim := { program := "ytendielanacflaagreat", sum := "e324af828f9362a4460ddfc91978da269ab7b2e304978f4e8835f44bca9022ca", func := "presswork/pressworklaw10.InflateLaid", spec := "inflateLaid", unfollowed := true, recurses := true, plainKeys := false, apart := false, narrowed := true }
def InflateLaidUptoSaid : Prop := inflateLaidUptoRow.holds Tryz.pinned (OpenSpec.upto inflateLaidSpec)

/-- 'pressworklaw18.EmitBack', WHERE WHAT IT READS IS OF BULK AT MOST 1048576: true; the input reads as it did. -/
def emitBackUptoRow : OpenClaim := { program := "ytendielanacflaagreat", sum := "e324af828f9362a4460ddfc91978da269ab7b2e304978f4e8835f44bca9022ca", func := "presswork/pressworklaw18.EmitBack", spec := "emitBack", unfollowed := true, recurses := true, plainKeys := false, apart := false, narrowed := true }
def EmitBackUptoSaid : Prop := emitBackUptoRow.holds Tryz.pinned (OpenSpec.upto emitBackSpec)

/-- 'pressworklaw18.EmitRuns', WHERE WHAT IT READS IS OF BULK AT MOST 1048576: true; the input reads as it did. -/
def emitRunsUptoRow : OpenClaim := { program := "ytendielanacflaagreat", sum := "e324af828f9362a4460ddfc91978da269ab7b2e304978f4e8835f44bca9022ca", func := "presswork/pressworklaw18.EmitRuns", spec := "emitRuns", unfollowed := true, recurses := true, plainKeys := false, apart := false, narrowed := true }
def EmitRunsUptoSaid : Prop := emitRunsUptoRow.holds Tryz.pinned (OpenSpec.upto emitRunsSpec)

/-- 'pressworklaw18.EmitKnown', WHERE WHAT IT READS IS OF BULK AT MOST 1048576: true; the input reads as it did. -/
def emitKnownUptoRow : OpenClaim := { program := "ytendielanacflaagreat", sum := "e324af828f9362a4460ddfc91978da269ab7b2e304978f4e8835f44bca9022ca", func := "presswork/pressworklaw18.EmitKnown", spec := "emitKnown", unfollowed := true, recurses := true, plainKeys := false, apart := false, narrowed := true }
def EmitKnownUptoSaid : Prop := emitKnownUptoRow.holds Tryz.pinned (OpenSpec.upto emitKnownSpec)

end Rows
end Go.Proofs.YtendielanacflaaGreat
