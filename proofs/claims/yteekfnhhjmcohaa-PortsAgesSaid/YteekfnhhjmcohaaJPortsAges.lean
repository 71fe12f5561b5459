/- PortsAges: at whatever arguments, the law answers true; the arguments read as they did. -/
import Derived.Test.YteekfnhhjmcohaaPoAg
import Derived.Test.YteekfnhhjmcohaaRows
import Derived.Test.YteekfnhhjmcohaaAmOpenS
import Derived.WalkKit
import Derived.ProofKit
import Derived.OpenShut
import Derived.JoinedCond
set_option linter.all false
namespace Go.Proofs.Yteekfnhhjmcohaa.portsAges
open Go.ChangeShapes Go.WideShapes Go.ChangeAt Go.RowKit Go.AM

theorem own : ownKnob Try.prog.godebug = none := by kernel_rfl
set_option maxRecDepth 100000 in
theorem contract (H : Type) (enc : TypeId × Value → H) (W : World) (base : Nat) (args : Array Value) (ds gs : List (DataW H)) (before : List MemPlace)
    (hval : ∀ (j : Nat) t v, Try.f3.params[j]? = some t → args[j]? = some v → Value.okWide Try.prog W .any base t v)
    (hW : DataW.Whole enc Try.prog Try.f3.params.toList Rows.portsAgesSpec.vars false W args.toList ds gs before) :
    Calls Try.prog 3 args W fun e W' => ∃ v, e = .returned v ∧ Rows.portsAgesSpec.post enc Try.prog Try.f3 false true false false W args v W' := by
  have hW' := hW
  obtain ⟨p, q, hA0, hV, rfl, hfz, hnd⟩ := hW
  have hA : DataW.TrodAll enc Try.prog W 0 (fun _ => true) true Try.f3.params.toList args.toList ds p := hA0
  rw [Try.params3] at hA hval
  obtain ⟨v0, vs0, d0, ds0, p0, q0, hargs, rfl, rfl, h0, r0⟩ := trodAll_cons hA
  obtain ⟨rfl, rfl, rfl⟩ := trodAll_nil r0
  obtain rfl : args = #[v0] := by cases args; simp_all
  obtain ⟨rfl, rfl⟩ := trodVars_none hV
  have hc0 : Cell.okWide Try.prog W .any base 22 v0 := by simpa only [Value.okWide, show Try.prog.underlying 22 = some (.slice 31) by kernel_rfl] using hval 0 22 v0 rfl rfl
  obtain ⟨sa0, sb0⟩ := ok_slc (show Try.prog.underlying 22 = some (.slice 31) by kernel_rfl) hc0
  obtain ⟨l0, hso0, hsi0, hdl0⟩ := open_gen (α := In Int) (datR := fun _ _ => True) (good := fun x => Sl (heap0 W) x.v x.xs) (show Try.prog.underlying 22 = some (.slice 31) by kernel_rfl) (show Try.prog.cellsOf 31 = 1 by kernel_rfl) (fun hN n cs x hx => by
    obtain ⟨a, q1, q2, _, _⟩ := open_in (α := Int) (datR := fun _ _ => True) (good := fun _ => True) (show Try.prog.underlying 31 = some (.slice 2) by kernel_rfl) (show Try.prog.cellsOf 2 = 1 by kernel_rfl) hN (fun n cs x hx => by
      obtain ⟨a, rfl, _, _⟩ := op_int (show Try.prog.underlying 2 = some (.int .i64) by kernel_rfl) n cs x hx
      exact ⟨a, rfl, trivial, trivial⟩) n cs x hx
    exact ⟨a, q1, trivial, q2⟩) sa0 sb0 h0
  have hsl0 : Sl2 (heap0 W) (absV W.heap.size v0) l0 := ⟨hso0, hsi0⟩
  have hG : Try.prog.globals.size ≤ W.heap.size := by rw [show Try.prog.globals.size = 0 by kernel_rfl]; exact Nat.zero_le _
  have key := calls_of_wp' (b := true) Cap.K_law20_PortsAges hG (args := #[v0]) (Cap.PortsAges_ok _ hsl0 _ fun H' => rfl)
  refine Calls.mono key fun e W' ⟨he, hb⟩ => ?_
  subst he
  refine ⟨_, rfl, post_of_below (by kernel_rfl) (fun t ht => ?_) rfl hW' hb (fun _ _ _ => trodAll_cons_mk (shut_bool (show Try.prog.underlying 4 = some .bool by kernel_rfl) _) trodAll_mk0) rfl rfl (ok_one (by kernel_rfl) rfl (okWide_bool_mk (show Try.prog.underlying 4 = some .bool by kernel_rfl) _))⟩
  rw [Try.params3] at ht
  simp only [List.mem_cons, List.not_mem_nil, or_false] at ht
  rcases ht with rfl <;> exact ⟨by kernel_rfl, by decide +kernel⟩

set_option maxRecDepth 100000 in
theorem lifted (os : Os) (started : os.Started) (H : Type) (enc : TypeId × Value → H) :
    ReturnsInHanded {} Try.checked os 3 .any (Rows.portsAgesSpec.pre6 enc Try.prog Try.f3 Rows.portsAgesRow.domain false) (Rows.portsAgesSpec.post enc Try.prog Try.f3 false true false false) := by
  refine returnsInHanded_of_change (C := Try.checked) own started (by kernel_rfl) Try.func3
    (ChangeSpec.witness6 (enc := enc) (C := Try.checked) false ⟨#[], #[Value.slice none 0 0], []⟩ 8 (by kernel_rfl) (by kernel_rfl) (by kernel_rfl) (by kernel_rfl)) ?_
  intro W base args ds gs before hval hW _ _
  exact contract H enc W base args ds gs before hval hW
theorem said : Rows.PortsAgesSaid :=
  OpenClaim.holds_of_wide 3 Try.f3 rfl rfl rfl rfl rfl rfl rfl ⟨rfl, rfl, rfl, rfl, rfl⟩ rfl rfl rfl rfl rfl (by kernel_rfl) Try.func3 (by kernel_rfl)
    (of_decide_eq_true (by kernel_rfl)) (by unfold Func.isWrapper; first | (rw [if_pos (by decide +kernel)]; kernel_rfl) | (rw [if_neg (by decide +kernel)]; exact ⟨rfl, rfl⟩))
    (fun os started H enc _ => lifted os started H enc)
end Go.Proofs.Yteekfnhhjmcohaa.portsAges
