import Derived.Test.YtbnjeldcndpdoaaPnI
import Derived.Test.YtbnjeldcndpdoaaAmEval
set_option linter.all false
/- points: how the arguments of its laws are opened -/
namespace Go.AM.Cap
open Go.AM Go.Proofs Go.ChangeShapes Go.WideShapes

section
variable {H : Type} {enc : TypeId × Value → H} {P : Program} {W : World}
def goodQ (N : Heap) (a : QAct) : Prop := Sl N a.vv.v a.vv.xs
theorem op_pt {t ti tb : TypeId} (hk : flatStruct P t [ti, tb] = true) (hi : P.underlying ti = some (.int .i64)) (hb : P.underlying tb = some .bool) (n : Nat) (cs : List Value) (x : DataW H × List MemPlace) (h : DataW.trod enc P W 0 (fun _ => true) true n t cs = some x) :
    ∃ a : Pt, cs.map (absV W.heap.size) = Flat.enc a ∧ x.1 = .agg [.lit (.int .i64 a.typ), .lit (.bool a.out)] ∧ goodI a.typ := by
  obtain ⟨hl, m, ds, hdl, hx, hr⟩ := flat_read hk h
  obtain ⟨c0, d0, e0, f0, r0⟩ := hr 0 ti rfl
  obtain ⟨c1, d1, e1, f1, r1⟩ := hr 1 tb rfl
  obtain ⟨a, ha, hda, hga⟩ := DataW.trod_int hi r0
  obtain ⟨b, hb', hdb⟩ := DataW.trod_bool hb r1
  cases ha; cases hb'
  match cs, ds, hl, hdl with
  | [_, _], [_, _], _, _ =>
    simp only [List.getElem?_cons_zero, List.getElem?_cons_succ] at e0 e1 f0 f1
    cases e0; cases e1; cases f0; cases f1
    exact ⟨⟨a, b⟩, rfl, by rw [hx, hda, hdb]; rfl, i64_wf hga⟩
theorem op_gr {t ti tb : TypeId} (hk : flatStruct P t [ti, ti, tb] = true) (hi : P.underlying ti = some (.int .i64)) (hb : P.underlying tb = some .bool) (n : Nat) (cs : List Value) (x : DataW H × List MemPlace) (h : DataW.trod enc P W 0 (fun _ => true) true n t cs = some x) :
    ∃ a : Gr, cs.map (absV W.heap.size) = Flat.enc a ∧ x.1 = .agg [.lit (.int .i64 a.part), .lit (.int .i64 a.point), .lit (.bool a.write)] ∧ goodI a.part ∧ goodI a.point := by
  obtain ⟨hl, m, ds, hdl, hx, hr⟩ := flat_read hk h
  obtain ⟨c0, d0, e0, f0, r0⟩ := hr 0 ti rfl
  obtain ⟨c1, d1, e1, f1, r1⟩ := hr 1 ti rfl
  obtain ⟨c2, d2, e2, f2, r2⟩ := hr 2 tb rfl
  obtain ⟨a, ha, hda, hga⟩ := DataW.trod_int hi r0
  obtain ⟨b, hb', hdb, hgb⟩ := DataW.trod_int hi r1
  obtain ⟨c, hc', hdc⟩ := DataW.trod_bool hb r2
  cases ha; cases hb'; cases hc'
  match cs, ds, hl, hdl with
  | [_, _, _], [_, _, _], _, _ =>
    simp only [List.getElem?_cons_zero, List.getElem?_cons_succ] at e0 e1 e2 f0 f1 f2
    cases e0; cases e1; cases e2; cases f0; cases f1; cases f2
    exact ⟨⟨a, b, c⟩, rfl, by rw [hx, hda, hdb, hdc]; rfl, i64_wf hga, i64_wf hgb⟩
end
end Go.AM.Cap
