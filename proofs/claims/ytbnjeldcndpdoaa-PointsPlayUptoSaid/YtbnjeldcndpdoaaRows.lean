/-
  No cell of these rows narrows 'for every input' (looked for: loops, veiled, ifaces, maps, wideKeys, modest, calm, conditions, laid).
  DERIVED. THE GIVEN ROWS OF THIS SEAT. 4 by the template 'for every input the law returns true; each argument reads behind the call as it read before'; 0 by the template 'total and deterministic' (their statements: YtbnjeldcndpdoaaTotals.lean).
  GIVEN WITH THE SEED: the statements are not yours to turn. If you find one false, say at which input.
  Laid BY PROGRAM, IN A SANDBOX (cutbox-rows.mjs): the forced cells as the released guide's own fill.sh prints them over the translation e304ffe6f8349cf6… (all of the seat's roots in one cut). By AI agents, Wed Nov 11 2026. No macro, syntax, notation, axiom, sorry.
-/
import Derived.Test.YtbnjeldcndpdoaaChecked
import GoSem.Claim
import GoSem.ClaimJoined
import GoSem.ClaimMapViews
import Derived.JoinedTies
import Derived.KernelRfl
namespace Go.Proofs.Ytbnjeldcndpdoaa
/- THE CELL 'sum', in the pinned program and in every row, IS THE sha256 OF THE DUMP (.gsa) THAT YtbnjeldcndpdoaaProg.lean LOADS. Nothing in Lean hashes anything: it is a label: what it is worth is what the hold of that sum in a sandbox is worth. -/
noncomputable def Try.pinned : Pinned := { name := "ytbnjeldcndpdoaa", sum := "e304ffe6f8349cf6821f5df2fb7ebc7f609c48fad8d2001cd9e24f4ce25dd55c", checked := Try.checked }
namespace Rows
def none {H : Type} : Left H := { results := [], args := [] }

/-- 'capstanlaw19.PointsApart': WHATEVER THE INPUT: true; the input reads as it did. -/
def pointsApartSpec : ChangeSpec := { name := "pointsApart", fn := fun _ => fun
  | [d1, d2, d3] => { results := [.lit (.bool true)], args := [d1, d2, d3] }
  | _ => none }
def pointsApartRow : OpenClaim := { program := "ytbnjeldcndpdoaa", sum := "e304ffe6f8349cf6821f5df2fb7ebc7f609c48fad8d2001cd9e24f4ce25dd55c", func := "capstan/capstanlaw19.PointsApart", spec := "pointsApart", unfollowed := true, recurses := true, plainKeys := false, apart := false }
def PointsApartSaid : Prop := pointsApartRow.holds Try.pinned (OpenSpec.ofChange pointsApartSpec)

/-- ITS FALSE NEIGHBOUR: 'it returns false'. Refute it at one input. -/
def pointsApartWrong : ChangeSpec := { name := "pointsApart", fn := fun _ => fun
  | [d1, d2, d3] => { results := [.lit (.bool false)], args := [d1, d2, d3] }
  | _ => none }
def PointsApartWrongFalsely : Prop := pointsApartRow.holds Try.pinned (OpenSpec.ofChange pointsApartWrong)

/-- 'capstanlaw19.PointsStage': WHATEVER THE INPUT: true; the input reads as it did. -/
def pointsStageSpec : ChangeSpec := { name := "pointsStage", fn := fun _ => fun
  | [d1, d2] => { results := [.lit (.bool true)], args := [d1, d2] }
  | _ => none }
def pointsStageRow : OpenClaim := { program := "ytbnjeldcndpdoaa", sum := "e304ffe6f8349cf6821f5df2fb7ebc7f609c48fad8d2001cd9e24f4ce25dd55c", func := "capstan/capstanlaw19.PointsStage", spec := "pointsStage", unfollowed := true, recurses := true, plainKeys := false, apart := false }
def PointsStageSaid : Prop := pointsStageRow.holds Try.pinned (OpenSpec.ofChange pointsStageSpec)

/-- ITS FALSE NEIGHBOUR: 'it returns false'. Refute it at one input. -/
def pointsStageWrong : ChangeSpec := { name := "pointsStage", fn := fun _ => fun
  | [d1, d2] => { results := [.lit (.bool false)], args := [d1, d2] }
  | _ => none }
def PointsStageWrongFalsely : Prop := pointsStageRow.holds Try.pinned (OpenSpec.ofChange pointsStageWrong)

/-- 'capstanlaw19.PointsPlay': WHATEVER THE INPUT: true; the input reads as it did. -/
def pointsPlaySpec : ChangeSpec := { name := "pointsPlay", fn := fun _ => fun
  | [d1, d2] => { results := [.lit (.bool true)], args := [d1, d2] }
  | _ => none }
def pointsPlayRow : OpenClaim := { program := "ytbnjeldcndpdoaa", sum := "e304ffe6f8349cf6821f5df2fb7ebc7f609c48fad8d2001cd9e24f4ce25dd55c", func := "capstan/capstanlaw19.PointsPlay", spec := "pointsPlay", unfollowed := true, recurses := true, plainKeys := false, apart := false }
def PointsPlaySaid : Prop := pointsPlayRow.holds Try.pinned (OpenSpec.ofChange pointsPlaySpec)

/-- ITS FALSE NEIGHBOUR: 'it returns false'. Refute it at one input. -/
def pointsPlayWrong : ChangeSpec := { name := "pointsPlay", fn := fun _ => fun
  | [d1, d2] => { results := [.lit (.bool false)], args := [d1, d2] }
  | _ => none }
def PointsPlayWrongFalsely : Prop := pointsPlayRow.holds Try.pinned (OpenSpec.ofChange pointsPlayWrong)

/-- 'capstanlaw19.PointsForce': WHATEVER THE INPUT: true; the input reads as it did. -/
def pointsForceSpec : ChangeSpec := { name := "pointsForce", fn := fun _ => fun
  | [d1, d2, d3] => { results := [.lit (.bool true)], args := [d1, d2, d3] }
  | _ => none }
def pointsForceRow : OpenClaim := { program := "ytbnjeldcndpdoaa", sum := "e304ffe6f8349cf6821f5df2fb7ebc7f609c48fad8d2001cd9e24f4ce25dd55c", func := "capstan/capstanlaw19.PointsForce", spec := "pointsForce", unfollowed := true, recurses := true, plainKeys := false, apart := false }
def PointsForceSaid : Prop := pointsForceRow.holds Try.pinned (OpenSpec.ofChange pointsForceSpec)

/-- ITS FALSE NEIGHBOUR: 'it returns false'. Refute it at one input. -/
def pointsForceWrong : ChangeSpec := { name := "pointsForce", fn := fun _ => fun
  | [d1, d2, d3] => { results := [.lit (.bool false)], args := [d1, d2, d3] }
  | _ => none }
def PointsForceWrongFalsely : Prop := pointsForceRow.holds Try.pinned (OpenSpec.ofChange pointsForceWrong)

/- THE SECOND FORM. 'bulk': how many values and letters a reading holds, each counted each time it is reached (what is shared counts as often as it is met; a slice's spare places count too). A statement '..UptoSaid' is the law's where the arguments, and the package variables that the reading takes, are together of bulk at most 1048576: NARROWER than '..Said'. Prove '..Said' where nothing that the law and all that it calls make is longer than what came in: it says more and counts as full. Else prove '..UptoSaid'. A law counts once. -/
mutual
def uptoBulk {H : Type} : DataW H → Nat
  | .lit (.string bytes) => bytes.length + 1
  | .lit _ => 1
  | .nil => 1
  | .ptr d => uptoBulk d + 1
  | .slice elems spare => uptoBulkAll elems + uptoBulkAll spare + 1
  | .agg parts => uptoBulkAll parts + 1
  | .iface _ d => uptoBulk d + 1
  | .map entries => uptoBulkEntries entries + 1
  | .held _ => 1
def uptoBulkAll {H : Type} : List (DataW H) → Nat
  | [] => 0
  | d :: r => uptoBulk d + uptoBulkAll r
def uptoBulkEntries {H : Type} : List (Lit × DataW H) → Nat
  | [] => 0
  | x :: r => uptoBulkEntry x + uptoBulkEntries r
def uptoBulkEntry {H : Type} : Lit × DataW H → Nat
  | (.string bytes, d) => bytes.length + uptoBulk d + 1
  | (_, d) => uptoBulk d + 1
 end
def uptoSmall : (H : Type) → List (DataW H) → Bool := fun _ ds => decide (uptoBulkAll ds ≤ 1048576)
def OpenSpec.upto (s : _root_.Go.ChangeSpec) : _root_.Go.OpenSpec := { _root_.Go.OpenSpec.ofChange s with cond := some uptoSmall }

/-- 'capstanlaw19.PointsApart', WHERE WHAT IT READS IS OF BULK AT MOST 1048576: true; the input reads as it did. -/
def pointsApartUptoRow : OpenClaim := { program := "ytbnjeldcndpdoaa", sum := "e304ffe6f8349cf6821f5df2fb7ebc7f609c48fad8d2001cd9e24f4ce25dd55c", func := "capstan/capstanlaw19.PointsApart", spec := "pointsApart", unfollowed := true, recurses := true, plainKeys := false, apart := false, narrowed := true }
def PointsApartUptoSaid : Prop := pointsApartUptoRow.holds Try.pinned (OpenSpec.upto pointsApartSpec)

/-- 'capstanlaw19.PointsStage', WHERE WHAT IT READS IS OF BULK AT MOST 1048576: true; the input reads as it did. -/
def pointsStageUptoRow : OpenClaim := { program := "ytbnjeldcndpdoaa", sum := "e304ffe6f8349cf6821f5df2fb7ebc7f609c48fad8d2001cd9e24f4ce25dd55c", func := "capstan/capstanlaw19.PointsStage", spec := "pointsStage", unfollowed := true, recurses := true, plainKeys := false, apart := false, narrowed := true }
def PointsStageUptoSaid : Prop := pointsStageUptoRow.holds Try.pinned (OpenSpec.upto pointsStageSpec)

/-- 'capstanlaw19.PointsPlay', WHERE WHAT IT READS IS OF BULK AT MOST 1048576: true; the input reads as it did. -/
def pointsPlayUptoRow : OpenClaim := { program := "ytbnjeldcndpdoaa", sum := "e304ffe6f8349cf6821f5df2fb7ebc7f609c48fad8d2001cd9e24f4ce25dd55c", func := "capstan/capstanlaw19.PointsPlay", spec := "pointsPlay", unfollowed := true, recurses := true, plainKeys := false, apart := false, narrowed := true }
def PointsPlayUptoSaid : Prop := pointsPlayUptoRow.holds Try.pinned (OpenSpec.upto pointsPlaySpec)

/-- 'capstanlaw19.PointsForce', WHERE WHAT IT READS IS OF BULK AT MOST 1048576: true; the input reads as it did. -/
def pointsForceUptoRow : OpenClaim := { program := "ytbnjeldcndpdoaa", sum := "e304ffe6f8349cf6821f5df2fb7ebc7f609c48fad8d2001cd9e24f4ce25dd55c", func := "capstan/capstanlaw19.PointsForce", spec := "pointsForce", unfollowed := true, recurses := true, plainKeys := false, apart := false, narrowed := true }
def PointsForceUptoSaid : Prop := pointsForceUptoRow.holds Try.pinned (OpenSpec.upto pointsForceSpec)

end Rows
end Go.Proofs.Ytbnjeldcndpdoaa
