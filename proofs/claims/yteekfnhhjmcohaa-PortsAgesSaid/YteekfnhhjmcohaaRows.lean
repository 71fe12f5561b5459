/-
  No cell of these rows narrows 'for every input' (looked for: loops, veiled, ifaces, maps, wideKeys, modest, calm, conditions, laid).
  DERIVED. THE GIVEN ROWS OF THIS SEAT. 6 by the template 'for every input the law returns true; each argument reads behind the call as it read before'; 0 by the template 'total and deterministic' (their statements: YteekfnhhjmcohaaTotals.lean).
  GIVEN WITH THE SEED: the statements are not yours to turn. If you find one false, say at which input.
  Laid BY PROGRAM, IN A SANDBOX (cutbox-rows.mjs): the forced cells as the released guide's own fill.sh prints them over the translation 0175d6c880934c5f… (all of the seat's roots in one cut). By AI agents, Wed Nov 11 2026. No macro, syntax, notation, axiom, sorry.
-/
import Derived.Test.YteekfnhhjmcohaaChecked
import GoSem.Claim
import GoSem.ClaimJoined
import GoSem.ClaimMapViews
import Derived.JoinedTies
import Derived.KernelRfl
namespace Go.Proofs.Yteekfnhhjmcohaa
/- THE CELL 'sum', in the pinned program and in every row, IS THE sha256 OF THE DUMP (.gsa) THAT YteekfnhhjmcohaaProg.lean LOADS. Nothing in Lean hashes anything: it is a label: what it is worth is what the hold of that sum in a sandbox is worth. -/
noncomputable def Try.pinned : Pinned := { name := "yteekfnhhjmcohaa", sum := "0175d6c880934c5facb25394928f10cc4bd2de20ba58c9e45cea01cbfacb3563", checked := Try.checked }
namespace Rows
def none {H : Type} : Left H := { results := [], args := [] }

/-- 'capstanlaw20.PortsAges': WHATEVER THE INPUT: true; the input reads as it did. -/
def portsAgesSpec : ChangeSpec := { name := "portsAges", fn := fun _ => fun
  | [d] => { results := [.lit (.bool true)], args := [d] }
  | _ => none }
def portsAgesRow : OpenClaim := { program := "yteekfnhhjmcohaa", sum := "0175d6c880934c5facb25394928f10cc4bd2de20ba58c9e45cea01cbfacb3563", func := "capstan/capstanlaw20.PortsAges", spec := "portsAges", apart := false }
def PortsAgesSaid : Prop := portsAgesRow.holds Try.pinned (OpenSpec.ofChange portsAgesSpec)

/-- ITS FALSE NEIGHBOUR: 'it returns false'. Refute it at one input. -/
def portsAgesWrong : ChangeSpec := { name := "portsAges", fn := fun _ => fun
  | [d] => { results := [.lit (.bool false)], args := [d] }
  | _ => none }
def PortsAgesWrongFalsely : Prop := portsAgesRow.holds Try.pinned (OpenSpec.ofChange portsAgesWrong)

/-- 'capstanlaw20.PortsPlay': WHATEVER THE INPUT: true; the input reads as it did. -/
def portsPlaySpec : ChangeSpec := { name := "portsPlay", fn := fun _ => fun
  | [d1, d2] => { results := [.lit (.bool true)], args := [d1, d2] }
  | _ => none }
def portsPlayRow : OpenClaim := { program := "yteekfnhhjmcohaa", sum := "0175d6c880934c5facb25394928f10cc4bd2de20ba58c9e45cea01cbfacb3563", func := "capstan/capstanlaw20.PortsPlay", spec := "portsPlay", apart := false }
def PortsPlaySaid : Prop := portsPlayRow.holds Try.pinned (OpenSpec.ofChange portsPlaySpec)

/-- ITS FALSE NEIGHBOUR: 'it returns false'. Refute it at one input. -/
def portsPlayWrong : ChangeSpec := { name := "portsPlay", fn := fun _ => fun
  | [d1, d2] => { results := [.lit (.bool false)], args := [d1, d2] }
  | _ => none }
def PortsPlayWrongFalsely : Prop := portsPlayRow.holds Try.pinned (OpenSpec.ofChange portsPlayWrong)

/-- 'capstanlaw20.PortsOrder': WHATEVER THE INPUT: true; the input reads as it did. -/
def portsOrderSpec : ChangeSpec := { name := "portsOrder", fn := fun _ => fun
  | [d1, d2] => { results := [.lit (.bool true)], args := [d1, d2] }
  | _ => none }
def portsOrderRow : OpenClaim := { program := "yteekfnhhjmcohaa", sum := "0175d6c880934c5facb25394928f10cc4bd2de20ba58c9e45cea01cbfacb3563", func := "capstan/capstanlaw20.PortsOrder", spec := "portsOrder", apart := false }
def PortsOrderSaid : Prop := portsOrderRow.holds Try.pinned (OpenSpec.ofChange portsOrderSpec)

/-- ITS FALSE NEIGHBOUR: 'it returns false'. Refute it at one input. -/
def portsOrderWrong : ChangeSpec := { name := "portsOrder", fn := fun _ => fun
  | [d1, d2] => { results := [.lit (.bool false)], args := [d1, d2] }
  | _ => none }
def PortsOrderWrongFalsely : Prop := portsOrderRow.holds Try.pinned (OpenSpec.ofChange portsOrderWrong)

/-- 'capstanlaw20.PortsUndo': WHATEVER THE INPUT: true; the input reads as it did. -/
def portsUndoSpec : ChangeSpec := { name := "portsUndo", fn := fun _ => fun
  | [d1, d2, d3] => { results := [.lit (.bool true)], args := [d1, d2, d3] }
  | _ => none }
def portsUndoRow : OpenClaim := { program := "yteekfnhhjmcohaa", sum := "0175d6c880934c5facb25394928f10cc4bd2de20ba58c9e45cea01cbfacb3563", func := "capstan/capstanlaw20.PortsUndo", spec := "portsUndo", apart := false }
def PortsUndoSaid : Prop := portsUndoRow.holds Try.pinned (OpenSpec.ofChange portsUndoSpec)

/-- ITS FALSE NEIGHBOUR: 'it returns false'. Refute it at one input. -/
def portsUndoWrong : ChangeSpec := { name := "portsUndo", fn := fun _ => fun
  | [d1, d2, d3] => { results := [.lit (.bool false)], args := [d1, d2, d3] }
  | _ => none }
def PortsUndoWrongFalsely : Prop := portsUndoRow.holds Try.pinned (OpenSpec.ofChange portsUndoWrong)

/-- 'capstanlaw20.PortsFlow': WHATEVER THE INPUT: true; the input reads as it did. -/
def portsFlowSpec : ChangeSpec := { name := "portsFlow", fn := fun _ => fun
  | [d1, d2] => { results := [.lit (.bool true)], args := [d1, d2] }
  | _ => none }
def portsFlowRow : OpenClaim := { program := "yteekfnhhjmcohaa", sum := "0175d6c880934c5facb25394928f10cc4bd2de20ba58c9e45cea01cbfacb3563", func := "capstan/capstanlaw20.PortsFlow", spec := "portsFlow", recurses := true, apart := false }
def PortsFlowSaid : Prop := portsFlowRow.holds Try.pinned (OpenSpec.ofChange portsFlowSpec)

/-- ITS FALSE NEIGHBOUR: 'it returns false'. Refute it at one input. -/
def portsFlowWrong : ChangeSpec := { name := "portsFlow", fn := fun _ => fun
  | [d1, d2] => { results := [.lit (.bool false)], args := [d1, d2] }
  | _ => none }
def PortsFlowWrongFalsely : Prop := portsFlowRow.holds Try.pinned (OpenSpec.ofChange portsFlowWrong)

/-- 'capstanlaw20.PortsApart': WHATEVER THE INPUT: true; the input reads as it did. -/
def portsApartSpec : ChangeSpec := { name := "portsApart", fn := fun _ => fun
  | [d1, d2, d3] => { results := [.lit (.bool true)], args := [d1, d2, d3] }
  | _ => none }
def portsApartRow : OpenClaim := { program := "yteekfnhhjmcohaa", sum := "0175d6c880934c5facb25394928f10cc4bd2de20ba58c9e45cea01cbfacb3563", func := "capstan/capstanlaw20.PortsApart", spec := "portsApart", recurses := true, apart := false }
def PortsApartSaid : Prop := portsApartRow.holds Try.pinned (OpenSpec.ofChange portsApartSpec)

/-- ITS FALSE NEIGHBOUR: 'it returns false'. Refute it at one input. -/
def portsApartWrong : ChangeSpec := { name := "portsApart", fn := fun _ => fun
  | [d1, d2, d3] => { results := [.lit (.bool false)], args := [d1, d2, d3] }
  | _ => none }
def PortsApartWrongFalsely : Prop := portsApartRow.holds Try.pinned (OpenSpec.ofChange portsApartWrong)

/- THE SECOND FORM. 'bulk': how many values and letters a reading holds, each counted each time it is reached (what is shared counts as often as it is met; a slice's spare places count too). A statement '..UptoSaid' is the law's where the arguments, and the package variables that the reading takes, are together of bulk at most 1048576: NARROWER than '..Said'. Prove '..Said' where nothing that the law and all that it calls make is longer than what came in: it says more and counts as full. Else prove '..UptoSaid'. A law counts once. -/
mutual
def uptoBulk {H : Type} : DataW H → Nat
  | .lit (.string bytes) => bytes.length + 1
  | .lit _ => 1
  | .nil => 1
  | .ptr d => uptoBulk d + 1
  | .slice elems spare => uptoBulkAll elems + uptoBulkAll spare + 1
  | .agg parts => uptoBulkAll parts + 1
  | .iface _ d => uptoBulk d + 1
  | .map entries => uptoBulkEntries entries + 1
  | .held _ => 1
def uptoBulkAll {H : Type} : List (DataW H) → Nat
  | [] => 0
  | d :: r => uptoBulk d + uptoBulkAll r
def uptoBulkEntries {H : Type} : List (Lit × DataW H) → Nat
  | [] => 0
  | x :: r => uptoBulkEntry x + uptoBulkEntries r
def uptoBulkEntry {H : Type} : Lit × DataW H → Nat
  | (.string bytes, d) => bytes.length + uptoBulk d + 1
  | (_, d) => uptoBulk d + 1
 end
def uptoSmall : (H : Type) → List (DataW H) → Bool := fun _ ds => decide (uptoBulkAll ds ≤ 1048576)
def OpenSpec.upto (s : _root_.Go.ChangeSpec) : _root_.Go.OpenSpec := { _root_.Go.OpenSpec.ofChange s with cond := some uptoSmall }

/-- 'capstanlaw20.PortsAges', WHERE WHAT IT READS IS OF BULK AT MOST 1048576: true; the input reads as it did. -/
def portsAgesUptoRow : OpenClaim := { program := "yteekfnhhjmcohaa", sum := "0175d6c880934c5facb25394928f10cc4bd2de20ba58c9e45cea01cbfacb3563", func := "capstan/capstanlaw20.PortsAges", spec := "portsAges", apart := false, narrowed := true }
def PortsAgesUptoSaid : Prop := portsAgesUptoRow.holds Try.pinned (OpenSpec.upto portsAgesSpec)

/-- 'capstanlaw20.PortsPlay', WHERE WHAT IT READS IS OF BULK AT MOST 1048576: true; the input reads as it did. -/
def portsPlayUptoRow : OpenClaim := { program := "yteekfnhhjmcohaa", sum := "0175d6c880934c5facb25394928f10cc4bd2de20ba58c9e45cea01cbfacb3563", func := "capstan/capstanlaw20.PortsPlay", spec := "portsPlay", apart := false, narrowed := true }
def PortsPlayUptoSaid : Prop := portsPlayUptoRow.holds Try.pinned (OpenSpec.upto portsPlaySpec)

/-- 'capstanlaw20.PortsOrder', WHERE WHAT IT READS IS OF BULK AT MOST 1048576: true; the input reads as it did. -/
def portsOrderUptoRow : OpenClaim := { program := "yteekfnhhjmcohaa", sum := "0175d6c880934c5facb25394928f10cc4bd2de20ba58c9e45cea01cbfacb3563", func := "capstan/capstanlaw20.PortsOrder", spec := "portsOrder", apart := false, narrowed := true }
def PortsOrderUptoSaid : Prop := portsOrderUptoRow.holds Try.pinned (OpenSpec.upto portsOrderSpec)

/-- 'capstanlaw20.PortsUndo', WHERE WHAT IT READS IS OF BULK AT MOST 1048576: true; the input reads as it did. -/
def portsUndoUptoRow : OpenClaim := { program := "yteekfnhhjmcohaa", sum := "0175d6c880934c5facb25394928f10cc4bd2de20ba58c9e45cea01cbfacb3563", func := "capstan/capstanlaw20.PortsUndo", spec := "portsUndo", apart := false, narrowed := true }
def PortsUndoUptoSaid : Prop := portsUndoUptoRow.holds Try.pinned (OpenSpec.upto portsUndoSpec)

/-- 'capstanlaw20.PortsFlow', WHERE WHAT IT READS IS OF BULK AT MOST 1048576: true; the input reads as it did. -/
def portsFlowUptoRow : OpenClaim := { program := "yteekfnhhjmcohaa", sum := "0175d6c880934c5facb25394928f10cc4bd2de20ba58c9e45cea01cbfacb3563", func := "capstan/capstanlaw20.PortsFlow", spec := "portsFlow", recurses := true, apart := false, narrowed := true }
def PortsFlowUptoSaid : Prop := portsFlowUptoRow.holds Try.pinned (OpenSpec.upto portsFlowSpec)

/-- 'capstanlaw20.PortsApart', WHERE WHAT IT READS IS OF BULK AT MOST 1048576: true; the input reads as it did. -/
def portsApartUptoRow : OpenClaim := { program := "yteekfnhhjmcohaa", sum := "0175d6c880934c5facb25394928f10cc4bd2de20ba58c9e45cea01cbfacb3563", func := "capstan/capstanlaw20.PortsApart", spec := "portsApart", recurses := true, apart := false, narrowed := true }
def PortsApartUptoSaid : Prop := portsApartUptoRow.holds Try.pinned (OpenSpec.upto portsApartSpec)

end Rows
end Go.Proofs.Yteekfnhhjmcohaa
