/-
  No cell of these rows narrows 'for every input' (looked for: loops, veiled, ifaces, maps, wideKeys, modest, calm, conditions, laid).
  DERIVED. THE GIVEN ROWS OF THIS SEAT. 10 by the template 'for every input the law returns true; each argument reads behind the call as it read before'; 0 by the template 'total and deterministic' (their statements: YtegogggemmcgdaaTotals.lean).
  GIVEN WITH THE SEED: the statements are not yours to turn. If you find one false, say at which input.
  Laid BY PROGRAM, IN A SANDBOX (cutbox-rows.mjs): the forced cells as the released guide's own fill.sh prints them over the translation 0a440f6a34b95864… (all of the seat's roots in one cut). By AI agents, Wed Nov 11 2026. No macro, syntax, notation, axiom, sorry.
-/
import Derived.Test.YtegogggemmcgdaaChecked
import GoSem.Claim
import GoSem.ClaimJoined
import GoSem.ClaimMapViews
import Derived.JoinedTies
import Derived.KernelRfl
namespace Go.Proofs.Ytegogggemmcgdaa
/- THE CELL 'sum', in the pinned program and in every row, IS THE sha256 OF THE DUMP (.gsa) THAT YtegogggemmcgdaaProg.lean LOADS. Nothing in Lean hashes anything: it is a label: what it is worth is what the hold of that sum in a sandbox is worth. -/
noncomputable def Try.pinned : Pinned := { name := "ytegogggemmcgdaa", sum := "0a440f6a34b958642128d50d8d011fa8443989bdc2ae091157047958f7dec896", checked := Try.checked }
namespace Rows
def none {H : Type} : Left H := { results := [], args := [] }

/-- 'dayshiftlaw29.WireOrder': WHATEVER THE INPUT: true; the input reads as it did. -/
def wireOrderSpec : ChangeSpec := { name := "wireOrder", fn := fun _ => fun
  | [d1, d2] => { results := [.lit (.bool true)], args := [d1, d2] }
  | _ => none }
def wireOrderRow : OpenClaim := { program := "ytegogggemmcgdaa", sum := "0a440f6a34b958642128d50d8d011fa8443989bdc2ae091157047958f7dec896", func := "dayshift/dayshiftlaw29.WireOrder", spec := "wireOrder", unfollowed := true, recurses := true, plainKeys := false, apart := false }
def WireOrderSaid : Prop := wireOrderRow.holds Try.pinned (OpenSpec.ofChange wireOrderSpec)

/-- ITS FALSE NEIGHBOUR: 'it returns false'. Refute it at one input. -/
def wireOrderWrong : ChangeSpec := { name := "wireOrder", fn := fun _ => fun
  | [d1, d2] => { results := [.lit (.bool false)], args := [d1, d2] }
  | _ => none }
def WireOrderWrongFalsely : Prop := wireOrderRow.holds Try.pinned (OpenSpec.ofChange wireOrderWrong)

/-- 'dayshiftlaw29.WireOnce': WHATEVER THE INPUT: true; the input reads as it did. -/
def wireOnceSpec : ChangeSpec := { name := "wireOnce", fn := fun _ => fun
  | [d] => { results := [.lit (.bool true)], args := [d] }
  | _ => none }
def wireOnceRow : OpenClaim := { program := "ytegogggemmcgdaa", sum := "0a440f6a34b958642128d50d8d011fa8443989bdc2ae091157047958f7dec896", func := "dayshift/dayshiftlaw29.WireOnce", spec := "wireOnce", unfollowed := true, recurses := true, plainKeys := false, apart := false }
def WireOnceSaid : Prop := wireOnceRow.holds Try.pinned (OpenSpec.ofChange wireOnceSpec)

/-- ITS FALSE NEIGHBOUR: 'it returns false'. Refute it at one input. -/
def wireOnceWrong : ChangeSpec := { name := "wireOnce", fn := fun _ => fun
  | [d] => { results := [.lit (.bool false)], args := [d] }
  | _ => none }
def WireOnceWrongFalsely : Prop := wireOnceRow.holds Try.pinned (OpenSpec.ofChange wireOnceWrong)

/-- 'dayshiftlaw22.CodecEvents': WHATEVER THE INPUT: true; the input reads as it did. -/
def codecEventsSpec : ChangeSpec := { name := "codecEvents", fn := fun _ => fun
  | [d] => { results := [.lit (.bool true)], args := [d] }
  | _ => none }
def codecEventsRow : OpenClaim := { program := "ytegogggemmcgdaa", sum := "0a440f6a34b958642128d50d8d011fa8443989bdc2ae091157047958f7dec896", func := "dayshift/dayshiftlaw22.CodecEvents", spec := "codecEvents", unfollowed := true, recurses := true, plainKeys := false, apart := false }
def CodecEventsSaid : Prop := codecEventsRow.holds Try.pinned (OpenSpec.ofChange codecEventsSpec)

/-- ITS FALSE NEIGHBOUR: 'it returns false'. Refute it at one input. -/
def codecEventsWrong : ChangeSpec := { name := "codecEvents", fn := fun _ => fun
  | [d] => { results := [.lit (.bool false)], args := [d] }
  | _ => none }
def CodecEventsWrongFalsely : Prop := codecEventsRow.holds Try.pinned (OpenSpec.ofChange codecEventsWrong)

/-- 'dayshiftlaw22.CodecStates': WHATEVER THE INPUT: true; the input reads as it did. -/
def codecStatesSpec : ChangeSpec := { name := "codecStates", fn := fun _ => fun
  | [d1, d2] => { results := [.lit (.bool true)], args := [d1, d2] }
  | _ => none }
def codecStatesRow : OpenClaim := { program := "ytegogggemmcgdaa", sum := "0a440f6a34b958642128d50d8d011fa8443989bdc2ae091157047958f7dec896", func := "dayshift/dayshiftlaw22.CodecStates", spec := "codecStates", unfollowed := true, recurses := true, plainKeys := false, apart := false }
def CodecStatesSaid : Prop := codecStatesRow.holds Try.pinned (OpenSpec.ofChange codecStatesSpec)

/-- ITS FALSE NEIGHBOUR: 'it returns false'. Refute it at one input. -/
def codecStatesWrong : ChangeSpec := { name := "codecStates", fn := fun _ => fun
  | [d1, d2] => { results := [.lit (.bool false)], args := [d1, d2] }
  | _ => none }
def CodecStatesWrongFalsely : Prop := codecStatesRow.holds Try.pinned (OpenSpec.ofChange codecStatesWrong)

/-- 'dayshiftlaw22.CodecGets': WHATEVER THE INPUT: true; the input reads as it did. -/
def codecGetsSpec : ChangeSpec := { name := "codecGets", fn := fun _ => fun
  | [d] => { results := [.lit (.bool true)], args := [d] }
  | _ => none }
def codecGetsRow : OpenClaim := { program := "ytegogggemmcgdaa", sum := "0a440f6a34b958642128d50d8d011fa8443989bdc2ae091157047958f7dec896", func := "dayshift/dayshiftlaw22.CodecGets", spec := "codecGets", unfollowed := true, recurses := true, plainKeys := false, apart := false }
def CodecGetsSaid : Prop := codecGetsRow.holds Try.pinned (OpenSpec.ofChange codecGetsSpec)

/-- ITS FALSE NEIGHBOUR: 'it returns false'. Refute it at one input. -/
def codecGetsWrong : ChangeSpec := { name := "codecGets", fn := fun _ => fun
  | [d] => { results := [.lit (.bool false)], args := [d] }
  | _ => none }
def CodecGetsWrongFalsely : Prop := codecGetsRow.holds Try.pinned (OpenSpec.ofChange codecGetsWrong)

/-- 'dayshiftlaw22.CodecCut': WHATEVER THE INPUT: true; the input reads as it did. -/
def codecCutSpec : ChangeSpec := { name := "codecCut", fn := fun _ => fun
  | [d1, d2, d3, d4] => { results := [.lit (.bool true)], args := [d1, d2, d3, d4] }
  | _ => none }
def codecCutRow : OpenClaim := { program := "ytegogggemmcgdaa", sum := "0a440f6a34b958642128d50d8d011fa8443989bdc2ae091157047958f7dec896", func := "dayshift/dayshiftlaw22.CodecCut", spec := "codecCut", unfollowed := true, recurses := true, plainKeys := false, apart := false }
def CodecCutSaid : Prop := codecCutRow.holds Try.pinned (OpenSpec.ofChange codecCutSpec)

/-- ITS FALSE NEIGHBOUR: 'it returns false'. Refute it at one input. -/
def codecCutWrong : ChangeSpec := { name := "codecCut", fn := fun _ => fun
  | [d1, d2, d3, d4] => { results := [.lit (.bool false)], args := [d1, d2, d3, d4] }
  | _ => none }
def CodecCutWrongFalsely : Prop := codecCutRow.holds Try.pinned (OpenSpec.ofChange codecCutWrong)

/-- 'dayshiftlaw29.WirePlays': WHATEVER THE INPUT: true; the input reads as it did. -/
def wirePlaysSpec : ChangeSpec := { name := "wirePlays", fn := fun _ => fun
  | [d] => { results := [.lit (.bool true)], args := [d] }
  | _ => none }
def wirePlaysRow : OpenClaim := { program := "ytegogggemmcgdaa", sum := "0a440f6a34b958642128d50d8d011fa8443989bdc2ae091157047958f7dec896", func := "dayshift/dayshiftlaw29.WirePlays", spec := "wirePlays", unfollowed := true, recurses := true, plainKeys := false, apart := false }
def WirePlaysSaid : Prop := wirePlaysRow.holds Try.pinned (OpenSpec.ofChange wirePlaysSpec)

/-- ITS FALSE NEIGHBOUR: 'it returns false'. Refute it at one input. -/
def wirePlaysWrong : ChangeSpec := { name := "wirePlays", fn := fun _ => fun
  | [d] => { results := [.lit (.bool false)], args := [d] }
  | _ => none }
def WirePlaysWrongFalsely : Prop := wirePlaysRow.holds Try.pinned (OpenSpec.ofChange wirePlaysWrong)

/-- 'dayshiftlaw29.WireNil': WHATEVER THE INPUT: true; the input reads as it did. -/
def wireNilSpec : ChangeSpec := { name := "wireNil", fn := fun _ => fun
  | [d1, d2] => { results := [.lit (.bool true)], args := [d1, d2] }
  | _ => none }
def wireNilRow : OpenClaim := { program := "ytegogggemmcgdaa", sum := "0a440f6a34b958642128d50d8d011fa8443989bdc2ae091157047958f7dec896", func := "dayshift/dayshiftlaw29.WireNil", spec := "wireNil", unfollowed := true, recurses := true, plainKeys := false, apart := false }
def WireNilSaid : Prop := wireNilRow.holds Try.pinned (OpenSpec.ofChange wireNilSpec)

/-- ITS FALSE NEIGHBOUR: 'it returns false'. Refute it at one input. -/
def wireNilWrong : ChangeSpec := { name := "wireNil", fn := fun _ => fun
  | [d1, d2] => { results := [.lit (.bool false)], args := [d1, d2] }
  | _ => none }
def WireNilWrongFalsely : Prop := wireNilRow.holds Try.pinned (OpenSpec.ofChange wireNilWrong)

/-- 'dayshiftlaw29.WireBytes': WHATEVER THE INPUT: true; the input reads as it did. -/
def wireBytesSpec : ChangeSpec := { name := "wireBytes", fn := fun _ => fun
  | [d1, d2] => { results := [.lit (.bool true)], args := [d1, d2] }
  | _ => none }
def wireBytesRow : OpenClaim := { program := "ytegogggemmcgdaa", sum := "0a440f6a34b958642128d50d8d011fa8443989bdc2ae091157047958f7dec896", func := "dayshift/dayshiftlaw29.WireBytes", spec := "wireBytes", unfollowed := true, recurses := true, plainKeys := false, apart := false }
def WireBytesSaid : Prop := wireBytesRow.holds Try.pinned (OpenSpec.ofChange wireBytesSpec)

/-- ITS FALSE NEIGHBOUR: 'it returns false'. Refute it at one input. -/
def wireBytesWrong : ChangeSpec := { name := "wireBytes", fn := fun _ => fun
  | [d1, d2] => { results := [.lit (.bool false)], args := [d1, d2] }
  | _ => none }
def WireBytesWrongFalsely : Prop := wireBytesRow.holds Try.pinned (OpenSpec.ofChange wireBytesWrong)

/-- 'dayshiftlaw29.WireTurned': WHATEVER THE INPUT: true; the input reads as it did. -/
def wireTurnedSpec : ChangeSpec := { name := "wireTurned", fn := fun _ => fun
  | [d1, d2, d3] => { results := [.lit (.bool true)], args := [d1, d2, d3] }
  | _ => none }
def wireTurnedRow : OpenClaim := { program := "ytegogggemmcgdaa", sum := "0a440f6a34b958642128d50d8d011fa8443989bdc2ae091157047958f7dec896", func := "dayshift/dayshiftlaw29.WireTurned", spec := "wireTurned", unfollowed := true, recurses := true, plainKeys := false, apart := false }
def WireTurnedSaid : Prop := wireTurnedRow.holds Try.pinned (OpenSpec.ofChange wireTurnedSpec)

/-- ITS FALSE NEIGHBOUR: 'it returns false'. Refute it at one input. -/
def wireTurnedWrong : ChangeSpec := { name := "wireTurned", fn := fun _ => fun
  | [d1, d2, d3] => { results := [.lit (.bool false)], args := [d1, d2, d3] }
  | _ => none }
def WireTurnedWrongFalsely : Prop := wireTurnedRow.holds Try.pinned (OpenSpec.ofChange wireTurnedWrong)

/- THE SECOND FORM. 'bulk': how many values and letters a reading holds, each counted each time it is reached (what is shared counts as often as it is met; a slice's spare places count too). A statement '..UptoSaid' is the law's where the arguments, and the package variables that the reading takes, are together of bulk at most 1048576: NARROWER than '..Said'. Prove '..Said' where nothing that the law and all that it calls make is longer than what came in: it says more and counts as full. Else prove '..UptoSaid'. A law counts once. -/
mutual
def uptoBulk {H : Type} : DataW H → Nat
  | .lit (.string bytes) => bytes.length + 1
  | .lit _ => 1
  | .nil => 1
  | .ptr d => uptoBulk d + 1
  | .slice elems spare => uptoBulkAll elems + uptoBulkAll spare + 1
  | .agg parts => uptoBulkAll parts + 1
  | .iface _ d => uptoBulk d + 1
  | .map entries => uptoBulkEntries entries + 1
  | .held _ => 1
def uptoBulkAll {H : Type} : List (DataW H) → Nat
  | [] => 0
  | d :: r => uptoBulk d + uptoBulkAll r
def uptoBulkEntries {H : Type} : List (Lit × DataW H) → Nat
  | [] => 0
  | x :: r => uptoBulkEntry x + uptoBulkEntries r
def uptoBulkEntry {H : Type} : Lit × DataW H → Nat
  | (.string bytes, d) => bytes.length + uptoBulk d + 1
  | (_, d) => uptoBulk d + 1
 end
def uptoSmall : (H : Type) → List (DataW H) → Bool := fun _ ds => decide (uptoBulkAll ds ≤ 1048576)
def OpenSpec.upto (s : _root_.Go.ChangeSpec) : _root_.Go.OpenSpec := { _root_.Go.OpenSpec.ofChange s with cond := some uptoSmall }

/-- 'dayshiftlaw29.WireOrder', WHERE WHAT IT READS IS OF BULK AT MOST 1048576: true; the input reads as it did. -/
def wireOrderUptoRow : OpenClaim := { program := "ytegogggemmcgdaa", sum := "0a440f6a34b958642128d50d8d011fa8443989bdc2ae091157047958f7dec896", func := "dayshift/dayshiftlaw29.WireOrder", spec := "wireOrder", unfollowed := true, recurses := true, plainKeys := false, apart := false, narrowed := true }
def WireOrderUptoSaid : Prop := wireOrderUptoRow.holds Try.pinned (OpenSpec.upto wireOrderSpec)

/-- 'dayshiftlaw29.WireOnce', WHERE WHAT IT READS IS OF BULK AT MOST 1048576: true; the input reads as it did. -/
def wireOnceUptoRow : OpenClaim := { program := "ytegogggemmcgdaa", sum := "0a440f6a34b958642128d50d8d011fa8443989bdc2ae091157047958f7dec896", func := "dayshift/dayshiftlaw29.WireOnce", spec := "wireOnce", unfollowed := true, recurses := true, plainKeys := false, apart := false, narrowed := true }
def WireOnceUptoSaid : Prop := wireOnceUptoRow.holds Try.pinned (OpenSpec.upto wireOnceSpec)

/-- 'dayshiftlaw22.CodecEvents', WHERE WHAT IT READS IS OF BULK AT MOST 1048576: true; the input reads as it did. -/
def codecEventsUptoRow : OpenClaim := { program := "ytegogggemmcgdaa", sum := "0a440f6a34b958642128d50d8d011fa8443989bdc2ae091157047958f7dec896", func := "dayshift/dayshiftlaw22.CodecEvents", spec := "codecEvents", unfollowed := true, recurses := true, plainKeys := false, apart := false, narrowed := true }
def CodecEventsUptoSaid : Prop := codecEventsUptoRow.holds Try.pinned (OpenSpec.upto codecEventsSpec)

/-- 'dayshiftlaw22.CodecStates', WHERE WHAT IT READS IS OF BULK AT MOST 1048576: true; the input reads as it did. -/
def codecStatesUptoRow : OpenClaim := { program := "ytegogggemmcgdaa", sum := "0a440f6a34b958642128d50d8d011fa8443989bdc2ae091157047958f7dec896", func := "dayshift/dayshiftlaw22.CodecStates", spec := "codecStates", unfollowed := true, recurses := true, plainKeys := false, apart := false, narrowed := true }
def CodecStatesUptoSaid : Prop := codecStatesUptoRow.holds Try.pinned (OpenSpec.upto codecStatesSpec)

/-- 'dayshiftlaw22.CodecGets', WHERE WHAT IT READS IS OF BULK AT MOST 1048576: true; the input reads as it did. -/
def codecGetsUptoRow : OpenClaim := { program := "ytegogggemmcgdaa", sum := "0a440f6a34b958642128d50d8d011fa8443989bdc2ae091157047958f7dec896", func := "dayshift/dayshiftlaw22.CodecGets", spec := "codecGets", unfollowed := true, recurses := true, plainKeys := false, apart := false, narrowed := true }
def CodecGetsUptoSaid : Prop := codecGetsUptoRow.holds Try.pinned (OpenSpec.upto codecGetsSpec)

/-- 'dayshiftlaw22.CodecCut', WHERE WHAT IT READS IS OF BULK AT MOST 1048576: true; the input reads as it did. -/
def codecCutUptoRow : OpenClaim := { program := "ytegogggemmcgdaa", sum := "0a440f6a34b958642128d50d8d011fa8443989bdc2ae091157047958f7dec896", func := "dayshift/dayshiftlaw22.CodecCut", spec := "codecCut", unfollowed := true, recurses := true, plainKeys := false, apart := false, narrowed := true }
def CodecCutUptoSaid : Prop := codecCutUptoRow.holds Try.pinned (OpenSpec.upto codecCutSpec)

/-- 'dayshiftlaw29.WirePlays', WHERE WHAT IT READS IS OF BULK AT MOST 1048576: true; the input reads as it did. -/
def wirePlaysUptoRow : OpenClaim := { program := "ytegogggemmcgdaa", sum := "0a440f6a34b958642128d50d8d011fa8443989bdc2ae091157047958f7dec896", func := "dayshift/dayshiftlaw29.WirePlays", spec := "wirePlays", unfollowed := true, recurses := true, plainKeys := false, apart := false, narrowed := true }
def WirePlaysUptoSaid : Prop := wirePlaysUptoRow.holds Try.pinned (OpenSpec.upto wirePlaysSpec)

/-- 'dayshiftlaw29.WireNil', WHERE WHAT IT READS IS OF BULK AT MOST 1048576: true; the input reads as it did. -/
def wireNilUptoRow : OpenClaim := { program := "ytegogggemmcgdaa", sum := "0a440f6a34b958642128d50d8d011fa8443989bdc2ae091157047958f7dec896", func := "dayshift/dayshiftlaw29.WireNil", spec := "wireNil", unfollowed := true, recurses := true, plainKeys := false, apart := false, narrowed := true }
def WireNilUptoSaid : Prop := wireNilUptoRow.holds Try.pinned (OpenSpec.upto wireNilSpec)

/-- 'dayshiftlaw29.WireBytes', WHERE WHAT IT READS IS OF BULK AT MOST 1048576: true; the input reads as it did. -/
def wireBytesUptoRow : OpenClaim := { program := "ytegogggemmcgdaa", sum := "0a440f6a34b958642128d50d8d011fa8443989bdc2ae091157047958f7dec896", func := "dayshift/dayshiftlaw29.WireBytes", spec := "wireBytes", unfollowed := true, recurses := true, plainKeys := false, apart := false, narrowed := true }
def WireBytesUptoSaid : Prop := wireBytesUptoRow.holds Try.pinned (OpenSpec.upto wireBytesSpec)

/-- 'dayshiftlaw29.WireTurned', WHERE WHAT IT READS IS OF BULK AT MOST 1048576: true; the input reads as it did. -/
def wireTurnedUptoRow : OpenClaim := { program := "ytegogggemmcgdaa", sum := "0a440f6a34b958642128d50d8d011fa8443989bdc2ae091157047958f7dec896", func := "dayshift/dayshiftlaw29.WireTurned", spec := "wireTurned", unfollowed := true, recurses := true, plainKeys := false, apart := false, narrowed := true }
def WireTurnedUptoSaid : Prop := wireTurnedUptoRow.holds Try.pinned (OpenSpec.upto wireTurnedSpec)

end Rows
end Go.Proofs.Ytegogggemmcgdaa
