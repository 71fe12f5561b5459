import Derived.Test.YtcmimkacafphkaaGreatDoorCoPi
import Derived.Test.YtcmimkacafphkaaGreatDoorCoRj
import Derived.Test.YtcmimkacafphkaaGreatDoorAmOpenF
import Derived.Test.YtcmimkacafphkaaGreatDoorCoS
set_option linter.all false
/- code: CodeReads, CodeBack on the machine -/
set_option maxHeartbeats 16000000
namespace Go.AM.Cap
open Go.AM Go.Proofs
theorem reads_ok {H : Heap} {G : List V → M V} (hT : Tok H) (hm : z9i H) (hp : z40 H) (ho : zy7 H) (b : ByteArray) : wp (zql asF G zd5 z2n zqm z41 [.string b]) (fun r _ => r = .bool true) H := by
  show wp (zk3 asF G zd5 z2n zqm z41 (.string b)) _ H
  unfold zk3
  (try simp (maxSteps := 1000000) (disch := first | omega | (simp only [Z3]; omega) | (simp; done) | assumption | decide | (refine not_not_intro ?_; assumption)) only [Z1, Z2, splice])
  refine zbel hT hm b _ fun x H1 k1 hx hxp => ?_
  have o1 := zhd x
  rw [zbc]
  (try simp (maxSteps := 1000000) (disch := first | omega | (simp only [Z3]; omega) | (simp; done) | assumption | decide | (refine not_not_intro ?_; assumption)) only [Z1, Z2, splice])
  have k2 : Keeps [] H1 (H1.push (some (.cells true [.string x.name, x.types.v, x.first.v, x.ins.v, x.outs.v, x.code.v]))) := Keeps.push _ _ _
  have g2 : (H1.push (some (.cells true [.string x.name, x.types.v, x.first.v, x.ins.v, x.outs.v, x.code.v]))).get H1.next = some (.cells true [.string x.name, x.types.v, x.first.v, x.ins.v, x.outs.v, x.code.v]) := Heap.get_push_self _ _
  generalize H1.push (some (.cells true [.string x.name, x.types.v, x.first.v, x.ins.v, x.outs.v, x.code.v])) = H2 at *
  generalize H1.next = p at *
  have k02 := k1.trans k2 (by simp)
  refine zbnz b _ fun y H3 k3 hy hyp => ?_
  have o2 := zhd y
  have k03 := k02.trans k3 (by simp)
  have g3 := k3.get g2 (by simp)
  rw [zbc]
  (try simp (maxSteps := 1000000) (disch := first | omega | (simp only [Z3]; omega) | (simp; done) | assumption | decide | (refine not_not_intro ?_; assumption)) only [Z1, Z2, splice])
  have k4 : Keeps [] H3 (H3.push (some (.cells true [.string y.name, y.types.v, y.first.v, y.ins.v, y.outs.v, y.code.v]))) := Keeps.push _ _ _
  have g4 : (H3.push (some (.cells true [.string y.name, y.types.v, y.first.v, y.ins.v, y.outs.v, y.code.v]))).get H3.next = some (.cells true [.string y.name, y.types.v, y.first.v, y.ins.v, y.outs.v, y.code.v]) := Heap.get_push_self _ _
  have g4x := k4.get g3 (by simp)
  generalize H3.push (some (.cells true [.string y.name, y.types.v, y.first.v, y.ins.v, y.outs.v, y.code.v])) = H4 at *
  generalize H3.next = q at *
  have k04 := k03.trans k4 (by simp)
  have hx4 := ((hx.keep0 k2).keep0 k3).keep0 k4
  have hy4 := hy.keep0 k4
  have hbd : (zh8 b).1.types.length ≤ 1024 ∧ (zh8 b).1.first.length ≤ 1024 ∧ (zh8 b).1.ins.length ≤ 1024 ∧ (zh8 b).1.outs.length ≤ 1024 ∧ (zh8 b).1.code.length ≤ 4096 := by
    by_cases hz : (zh8 b).2 = 0
    · have hc := (zt7 (zbjl hz)).1
      obtain ⟨z1, z2, z3, z4, _⟩ := z29 hc
      have z5 := (z5u.1 hc).1.2.2.2.2.1
      exact ⟨z2, by omega, z3, z4, z5⟩
    · rw [zblv hz]; simp
  rw [← hxp] at hbd
  obtain ⟨z1, z2, z3, z4, z5⟩ := hbd
  have z1 : x.types.xs.length ≤ 1024 := z1
  have z2 : x.first.xs.length ≤ 1024 := z2
  have z3 : x.ins.xs.length ≤ 1024 := z3
  have z4 : x.outs.xs.length ≤ 1024 := z4
  have z5 : x.code.xs.length ≤ 4096 := z5
  (try simp (maxSteps := 1000000) (disch := first | omega | (simp only [Z3]; omega) | (simp; done) | assumption | decide | (refine not_not_intro ?_; assumption)) only [Z1, Z2, splice, g4x, g4])
  rw [← zbc, ← zbc]
  refine zbq8 hx4 hy4 (by omega) (by omega) (by omega) (by omega) (by omega) _ fun H5 k5 => ?_
  have k05 := k04.trans k5 (by simp)
  have hs : x.p = y.p := hxp.trans hyp.symm
  (try simp (maxSteps := 1000000) (disch := first | omega | (simp only [Z3]; omega) | (simp; done) | assumption | decide | (refine not_not_intro ?_; assumption)) only [Z1, Z2, splice, decide_eq_true hs])
  refine zbnm (hm.keep k05) (k05.get hp (by simp)) (k05.get ho (by simp)) _ fun H6 k6 => ?_
  (try simp (maxSteps := 1000000) (disch := first | omega | (simp only [Z3]; omega) | (simp; done) | assumption | decide | (refine not_not_intro ?_; assumption)) only [Z1, Z2, splice])
end Go.AM.Cap

/- code: the listed variables, a type's handle among them -/
namespace Go.AM.Cap
open Go.AM Go.Proofs Go.Proofs.YtcmimkacafphkaaGreatDoor Go.ChangeShapes Go.WideShapes Go.RowKit
theorem less {W : World} (h : laidMetH Tryz.prog Rows.codeReadsRow.laid W) : laidMetH Tryz.prog Rows.codeShowsRow.laid W := laidMetH.filter (fun x => !(x.1 == "errors.errorType")) h
theorem et : Tryz.prog.globalNamed "errors.errorType" = some 2 := by kernel_rfl
theorem rt : (Tryz.prog.cutTypes.find? (·.1 == "internal/reflectlite.rtype")).map (·.2) = some 189 := by kernel_rfl
theorem zbxu : ((List.range Tryz.prog.types.size).filter fun t => Tryz.prog.rowNamed t [101, 114, 114, 111, 114]) = [92] := by kernel_rfl
theorem handle {W : World} (h : laidMetH Tryz.prog Rows.codeReadsRow.laid W) : W.cell? ⟨2, 0, none⟩ = some (.iface 189 (.agg #[.pointer (some ⟨8, 92, none⟩)])) := by
  have h1 := laidMetH.filter (fun x => x.1 == "errors.errorType") h
  have h' : laidMet Tryz.prog [] W ∧ handlesMet Tryz.prog [("errors.errorType", Rows.laid_errors_errorType)] W := h1
  obtain ⟨name, u, ty, e1, e2, e3, e4, e5⟩ := h'.2 _ (List.mem_singleton.2 rfl)
  have en : name = [101, 114, 114, 111, 114] := (Option.some.inj e1).symm
  subst en
  obtain rfl := Option.some.inj (rt.symm.trans e2)
  have hm : ty ∈ (List.range Tryz.prog.types.size).filter fun t => Tryz.prog.rowNamed t [101, 114, 114, 111, 114] := List.mem_filter.2 ⟨List.mem_range.2 e3, e4⟩
  rw [zbxu] at hm
  obtain rfl := List.mem_singleton.1 hm
  have hh : typeHandle Tryz.prog 92 = .pointer (some ⟨8, 92, none⟩) := by kernel_rfl
  rw [hh] at e5
  simpa using World.var?_cell et e5 0
theorem tok {W : World} (h : laidMetH Tryz.prog Rows.codeReadsRow.laid W) : Tok (zze W) := by
  have hc := handle h
  unfold World.cell? at hc
  split at hc
  · rename_i c t f hb
    have hb' : W.heap[2]? = some (.cells c t f) := hb
    unfold Tok Heap.cell
    rw [zw8, hb']
    have h0 : c[0]? = some (.iface 189 (.agg #[.pointer (some ⟨8, 92, none⟩)])) := by simpa using hc
    show (c.toList.map (absV W.heap.size))[0]? = _
    rw [List.getElem?_map, Array.getElem?_toList, h0]
    rfl
  · cases hc
noncomputable def laidWorldT (os : Os) : World :=
  { zbgr os with heap := (zbgr os).heap.modify 2 (lay [.iface 189 (.agg #[.pointer (some ⟨8, 92, none⟩)])]) }
end Go.AM.Cap
