/- The tables that the rows list, in the world that the call begins in. -/
import Derived.Test.YtjicmjniddbllaaDoorShaF
import Derived.Test.YtjicmjniddbllaaDoorAmJoin
import Derived.Test.YtjicmjniddbllaaDoorRows
import Derived.WalkKit
import Derived.ProofKit
import Derived.Deep.DeepHandedRow
set_option linter.all false
namespace Go.AM.Cap
open Go.ChangeShapes Go.WideShapes Go.ChangeAt Go.RowKit Go.AM Go.Proofs Go.Proofs.YtjicmjniddbllaaDoor

theorem tabs {W : World} (h : laidMetH Tryd.prog Rows.shaSumsRow.laid W) : Tryd.prog.globals.size ≤ W.heap.size ∧ Cap.First (heap0 W) ∧ Cap.Tab (heap0 W) := by
  have h1 := laidMetH.filter (fun x => x.1 == "capstan/sha.first") h
  have h2 := laidMetH.filter (fun x => x.1 == "capstan/sha.rounds") h
  have t1 : Lib.TabIs Tryd.prog W "capstan/sha.first" .u32 [1779033703, 3144134277, 1013904242, 2773480762, 1359893119, 2600822924, 528734635, 1541459225] :=
    Lib.tabIs_of_head (rest := []) (g := Cap.gid_sha_first) (n := 8) (t := 50) (e := 44) (by kernel_rfl) (by kernel_rfl) (by kernel_rfl) (by kernel_rfl) (by kernel_rfl) (by kernel_rfl) h1
  have t2 : Lib.TabIs Tryd.prog W "capstan/sha.rounds" .u32 (Cap.tab.map fun x => (x.toNat : Int)) :=
    Lib.tabIs_of_head (rest := []) (g := Cap.gid_sha_rounds) (n := 64) (t := 61) (e := 44) (by kernel_rfl) (by kernel_rfl) (by kernel_rfl) (by kernel_rfl) (by kernel_rfl) (by kernel_rfl) h2
  obtain ⟨l1, g1⟩ := tab_block t1 (by kernel_rfl)
  obtain ⟨l2, g2⟩ := tab_block t2 (by kernel_rfl)
  refine ⟨?_, ⟨_, _, g1, by decide, rfl⟩, ⟨_, _, g2, fun i hi => ?_⟩⟩
  · have e1 : Tryd.prog.globals.size = 2 := by kernel_rfl
    have e2 : Cap.gid_sha_first = 0 := rfl
    have e3 : Cap.gid_sha_rounds = 1 := rfl
    omega
  · have hl : Cap.tab.length = 64 := rfl
    simp [List.getElem?_map, List.getElem?_eq_getElem (show i < Cap.tab.length by omega)]

def lay (cs : List V) (o : Obj) : Obj := match o with
  | .cells _ t frozen => .cells cs.toArray t frozen
  | o => o
noncomputable def laidWorld (os : Os) : World :=
  { World.holding Tryd.prog os ⟨#[], #[], []⟩ with heap := ((World.holding Tryd.prog os ⟨#[], #[], []⟩).heap.modify Cap.gid_sha_first (lay Cap.St.init.cells)).modify Cap.gid_sha_rounds (lay (Cap.tab.map U)) }
end Go.AM.Cap
