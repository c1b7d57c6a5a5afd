/-
  No cell of these rows narrows 'for every input' (looked for: loops, veiled, ifaces, maps, wideKeys, modest, calm, conditions, laid).
  DERIVED. THE GIVEN ROWS OF THIS SEAT. 3 by the template 'for every input the law returns true; each argument reads behind the call as it read before'; 0 by the template 'total and deterministic' (their statements: YtohnchkoldbpcaaTotals.lean).
  GIVEN WITH THE SEED: the statements are not yours to turn. If you find one false, say at which input.
  Laid BY PROGRAM, IN A SANDBOX (cutbox-rows.mjs): the forced cells as the released guide's own fill.sh prints them over the translation 6394c0c7155f71a6… (all of the seat's roots in one cut). By AI agents, Wed Nov 11 2026. No macro, syntax, notation, axiom, sorry.
-/
import Derived.Test.YtohnchkoldbpcaaChecked
import GoSem.Claim
import GoSem.ClaimJoined
import GoSem.ClaimMapViews
import Derived.JoinedTies
import Derived.KernelRfl
namespace Go.Proofs.Ytohnchkoldbpcaa
/- THE CELL 'sum', in the pinned program and in every row, IS THE sha256 OF THE DUMP (.gsa) THAT YtohnchkoldbpcaaProg.lean LOADS. Nothing in Lean hashes anything: it is a label: what it is worth is what the hold of that sum in a sandbox is worth. -/
noncomputable def Try.pinned : Pinned := { name := "ytohnchkoldbpcaa", sum := "6394c0c7155f71a6644c5bcea53cdee446ec35664b6ab2084e7fe9c5f7fc08dd", checked := Try.checked }
namespace Rows
def none {H : Type} : Left H := { results := [], args := [] }

/-- 'dayshiftlaw30.AgentNil': WHATEVER THE INPUT: true; the input reads as it did. -/
def agentNilSpec : ChangeSpec := { name := "agentNil", fn := fun _ => fun
  | [d1, d2] => { results := [.lit (.bool true)], args := [d1, d2] }
  | _ => none }
def agentNilRow : OpenClaim := { program := "ytohnchkoldbpcaa", sum := "6394c0c7155f71a6644c5bcea53cdee446ec35664b6ab2084e7fe9c5f7fc08dd", func := "dayshift/dayshiftlaw30.AgentNil", spec := "agentNil", inPlace := ["slices.overlaps[*dayshift/agent.work]"], unfollowed := true, recurses := true, plainKeys := false, apart := false }
def AgentNilSaid : Prop := agentNilRow.holds Try.pinned (OpenSpec.ofChange agentNilSpec)

/-- ITS FALSE NEIGHBOUR: 'it returns false'. Refute it at one input. -/
def agentNilWrong : ChangeSpec := { name := "agentNil", fn := fun _ => fun
  | [d1, d2] => { results := [.lit (.bool false)], args := [d1, d2] }
  | _ => none }
def AgentNilWrongFalsely : Prop := agentNilRow.holds Try.pinned (OpenSpec.ofChange agentNilWrong)

/-- 'dayshiftlaw30.AgentCalm': WHATEVER THE INPUT: true; the input reads as it did. -/
def agentCalmSpec : ChangeSpec := { name := "agentCalm", fn := fun _ => fun
  | [d] => { results := [.lit (.bool true)], args := [d] }
  | _ => none }
def agentCalmRow : OpenClaim := { program := "ytohnchkoldbpcaa", sum := "6394c0c7155f71a6644c5bcea53cdee446ec35664b6ab2084e7fe9c5f7fc08dd", func := "dayshift/dayshiftlaw30.AgentCalm", spec := "agentCalm", inPlace := ["slices.overlaps[*dayshift/agent.work]"], unfollowed := true, recurses := true, plainKeys := false, apart := false }
def AgentCalmSaid : Prop := agentCalmRow.holds Try.pinned (OpenSpec.ofChange agentCalmSpec)

/-- ITS FALSE NEIGHBOUR: 'it returns false'. Refute it at one input. -/
def agentCalmWrong : ChangeSpec := { name := "agentCalm", fn := fun _ => fun
  | [d] => { results := [.lit (.bool false)], args := [d] }
  | _ => none }
def AgentCalmWrongFalsely : Prop := agentCalmRow.holds Try.pinned (OpenSpec.ofChange agentCalmWrong)

/-- 'dayshiftlaw30.AgentOnce': WHATEVER THE INPUT: true; the input reads as it did. -/
def agentOnceSpec : ChangeSpec := { name := "agentOnce", fn := fun _ => fun
  | [d] => { results := [.lit (.bool true)], args := [d] }
  | _ => none }
def agentOnceRow : OpenClaim := { program := "ytohnchkoldbpcaa", sum := "6394c0c7155f71a6644c5bcea53cdee446ec35664b6ab2084e7fe9c5f7fc08dd", func := "dayshift/dayshiftlaw30.AgentOnce", spec := "agentOnce", inPlace := ["slices.overlaps[*dayshift/agent.work]"], unfollowed := true, recurses := true, plainKeys := false, apart := false }
def AgentOnceSaid : Prop := agentOnceRow.holds Try.pinned (OpenSpec.ofChange agentOnceSpec)

/-- ITS FALSE NEIGHBOUR: 'it returns false'. Refute it at one input. -/
def agentOnceWrong : ChangeSpec := { name := "agentOnce", fn := fun _ => fun
  | [d] => { results := [.lit (.bool false)], args := [d] }
  | _ => none }
def AgentOnceWrongFalsely : Prop := agentOnceRow.holds Try.pinned (OpenSpec.ofChange agentOnceWrong)

/- THE SECOND FORM. 'bulk': how many values and letters a reading holds, each counted each time it is reached (what is shared counts as often as it is met; a slice's spare places count too). A statement '..UptoSaid' is the law's where the arguments, and the package variables that the reading takes, are together of bulk at most 1048576: NARROWER than '..Said'. Prove '..Said' where nothing that the law and all that it calls make is longer than what came in: it says more and counts as full. Else prove '..UptoSaid'. A law counts once. -/
mutual
def uptoBulk {H : Type} : DataW H → Nat
  | .lit (.string bytes) => bytes.length + 1
  | .lit _ => 1
  | .nil => 1
  | .ptr d => uptoBulk d + 1
  | .slice elems spare => uptoBulkAll elems + uptoBulkAll spare + 1
  | .agg parts => uptoBulkAll parts + 1
  | .iface _ d => uptoBulk d + 1
  | .map entries => uptoBulkEntries entries + 1
  | .held _ => 1
def uptoBulkAll {H : Type} : List (DataW H) → Nat
  | [] => 0
  | d :: r => uptoBulk d + uptoBulkAll r
def uptoBulkEntries {H : Type} : List (Lit × DataW H) → Nat
  | [] => 0
  | x :: r => uptoBulkEntry x + uptoBulkEntries r
def uptoBulkEntry {H : Type} : Lit × DataW H → Nat
  | (.string bytes, d) => bytes.length + uptoBulk d + 1
  | (_, d) => uptoBulk d + 1
 end
def uptoSmall : (H : Type) → List (DataW H) → Bool := fun _ ds => decide (uptoBulkAll ds ≤ 1048576)
def OpenSpec.upto (s : _root_.Go.ChangeSpec) : _root_.Go.OpenSpec := { _root_.Go.OpenSpec.ofChange s with cond := some uptoSmall }

/-- 'dayshiftlaw30.AgentNil', WHERE WHAT IT READS IS OF BULK AT MOST 1048576: true; the input reads as it did. -/
def agentNilUptoRow : OpenClaim := { program := "ytohnchkoldbpcaa", sum := "6394c0c7155f71a6644c5bcea53cdee446ec35664b6ab2084e7fe9c5f7fc08dd", func := "dayshift/dayshiftlaw30.AgentNil", spec := "agentNil", inPlace := ["slices.overlaps[*dayshift/agent.work]"], unfollowed := true, recurses := true, plainKeys := false, apart := false, narrowed := true }
def AgentNilUptoSaid : Prop := agentNilUptoRow.holds Try.pinned (OpenSpec.upto agentNilSpec)

/-- 'dayshiftlaw30.AgentCalm', WHERE WHAT IT READS IS OF BULK AT MOST 1048576: true; the input reads as it did. -/
def agentCalmUptoRow : OpenClaim := { program := "ytohnchkoldbpcaa", sum := "6394c0c7155f71a6644c5bcea53cdee446ec35664b6ab2084e7fe9c5f7fc08dd", func := "dayshift/dayshiftlaw30.AgentCalm", spec := "agentCalm", inPlace := ["slices.overlaps[*dayshift/agent.work]"], unfollowed := true, recurses := true, plainKeys := false, apart := false, narrowed := true }
def AgentCalmUptoSaid : Prop := agentCalmUptoRow.holds Try.pinned (OpenSpec.upto agentCalmSpec)

/-- 'dayshiftlaw30.AgentOnce', WHERE WHAT IT READS IS OF BULK AT MOST 1048576: true; the input reads as it did. -/
def agentOnceUptoRow : OpenClaim := { program := "ytohnchkoldbpcaa", sum := "6394c0c7155f71a6644c5bcea53cdee446ec35664b6ab2084e7fe9c5f7fc08dd", func := "dayshift/dayshiftlaw30.AgentOnce", spec := "agentOnce", inPlace := ["slices.overlaps[*dayshift/agent.work]"], unfollowed := true, recurses := true, plainKeys := false, apart := false, narrowed := true }
def AgentOnceUptoSaid : Prop := agentOnceUptoRow.holds Try.pinned (OpenSpec.upto agentOnceSpec)

end Rows
end Go.Proofs.Ytohnchkoldbpcaa
