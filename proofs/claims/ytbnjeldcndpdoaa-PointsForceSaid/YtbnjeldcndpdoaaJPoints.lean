import Derived.Test.YtbnjeldcndpdoaaPnI
import Derived.Test.YtbnjeldcndpdoaaAmEval
set_option linter.all false
/- points: how the arguments of its laws are opened -/
namespace Go.AM.Cap
open Go.AM Go.Proofs Go.ChangeShapes Go.WideShapes

section
variable {H : Type} {enc : TypeId × Value → H} {P : Program} {W : World}
def goodQ (N : Heap) (a : QAct) : Prop := Sl N a.vv.v a.vv.xs
theorem op_pt {t ti tb : TypeId} (hk : flatStruct P t [ti, tb] = true) (hi : P.underlying ti = some (.int .i64)) (hb : P.underlying tb = some .bool) (n : Nat) (cs : List Value) (x : DataW H × List MemPlace) (h : DataW.trod enc P W 0 (fun _ => true) true n t cs = some x) :
    ∃ a : Pt, cs.map (absV W.heap.size) = Flat.enc a ∧ x.1 = .agg [.lit (.int .i64 a.typ), .lit (.bool a.out)] ∧ goodI a.typ := by
  obtain ⟨hl, m, ds, hdl, hx, hr⟩ := flat_read hk h
  obtain ⟨c0, d0, e0, f0, r0⟩ := hr 0 ti rfl
  obtain ⟨c1, d1, e1, f1, r1⟩ := hr 1 tb rfl
  obtain ⟨a, ha, hda, hga⟩ := DataW.trod_int hi r0
  obtain ⟨b, hb', hdb⟩ := DataW.trod_bool hb r1
  cases ha; cases hb'
  match cs, ds, hl, hdl with
  | [_, _], [_, _], _, _ =>
    simp only [List.getElem?_cons_zero, List.getElem?_cons_succ] at e0 e1 f0 f1
    cases e0; cases e1; cases f0; cases f1
    exact ⟨⟨a, b⟩, rfl, by rw [hx, hda, hdb]; rfl, i64_wf hga⟩
theorem op_gr {t ti tb : TypeId} (hk : flatStruct P t [ti, ti, tb] = true) (hi : P.underlying ti = some (.int .i64)) (hb : P.underlying tb = some .bool) (n : Nat) (cs : List Value) (x : DataW H × List MemPlace) (h : DataW.trod enc P W 0 (fun _ => true) true n t cs = some x) :
    ∃ a : Gr, cs.map (absV W.heap.size) = Flat.enc a ∧ x.1 = .agg [.lit (.int .i64 a.part), .lit (.int .i64 a.point), .lit (.bool a.write)] ∧ goodI a.part ∧ goodI a.point := by
  obtain ⟨hl, m, ds, hdl, hx, hr⟩ := flat_read hk h
  obtain ⟨c0, d0, e0, f0, r0⟩ := hr 0 ti rfl
  obtain ⟨c1, d1, e1, f1, r1⟩ := hr 1 ti rfl
  obtain ⟨c2, d2, e2, f2, r2⟩ := hr 2 tb rfl
  obtain ⟨a, ha, hda, hga⟩ := DataW.trod_int hi r0
  obtain ⟨b, hb', hdb, hgb⟩ := DataW.trod_int hi r1
  obtain ⟨c, hc', hdc⟩ := DataW.trod_bool hb r2
  cases ha; cases hb'; cases hc'
  match cs, ds, hl, hdl with
  | [_, _, _], [_, _, _], _, _ =>
    simp only [List.getElem?_cons_zero, List.getElem?_cons_succ] at e0 e1 e2 f0 f1 f2
    cases e0; cases e1; cases e2; cases f0; cases f1; cases f2
    exact ⟨⟨a, b, c⟩, rfl, by rw [hx, hda, hdb, hdc]; rfl, i64_wf hga, i64_wf hgb⟩
theorem op_qact {t ti tn ts te : TypeId} (hk : flatStruct P t [ti, ti, ti, tn, ts] = true) (hi : P.underlying ti = some (.int .i64)) (hn : P.underlying tn = some (.int .i64)) (hs : P.underlying ts = some (.slice te)) (hte : P.underlying te = some (.int .i64)) (hce : P.cellsOf te = 1) (hN : 0 < W.heap.size)
    (n : Nat) (cs : List Value) (x : DataW H × List MemPlace) (h : DataW.trod enc P W 0 (fun _ => true) true n t cs = some x) :
    ∃ a : QAct, cs.map (absV W.heap.size) = Flat.enc a ∧ goodQ (heap0 W) a := by
  obtain ⟨hl, m, ds, hdl, hx, hr⟩ := flat_read hk h
  obtain ⟨c0, d0, e0, f0, r0⟩ := hr 0 ti rfl
  obtain ⟨c1, d1, e1, f1, r1⟩ := hr 1 ti rfl
  obtain ⟨c2, d2, e2, f2, r2⟩ := hr 2 ti rfl
  obtain ⟨c3, d3, e3, f3, r3⟩ := hr 3 tn rfl
  obtain ⟨c4, d4, e4, f4, r4⟩ := hr 4 ts rfl
  obtain ⟨a0, h0, _, _⟩ := DataW.trod_int hi r0
  obtain ⟨a1, h1, _, _⟩ := DataW.trod_int hi r1
  obtain ⟨a2, h2, _, _⟩ := DataW.trod_int hi r2
  obtain ⟨a3, h3, _, _⟩ := DataW.trod_int hn r3
  obtain ⟨a4, q1, q2, _, _⟩ := open_in (α := Int) (datR := fun _ _ => True) (good := fun _ => True) hs hce hN (fun n cs x hx => by
    obtain ⟨a, rfl, _, _⟩ := op_int hte n cs x hx
    exact ⟨a, rfl, trivial, trivial⟩) _ _ _ r4
  cases h0; cases h1; cases h2; cases h3
  match cs, hl with
  | [_, _, _, _, _], _ =>
    simp only [List.getElem?_cons_zero, List.getElem?_cons_succ] at e0 e1 e2 e3 e4
    cases e0; cases e1; cases e2; cases e3; cases e4
    refine ⟨⟨a0, a1, a2, a3, a4⟩, ?_, q2⟩
    simp only [List.map_cons, List.map_nil, List.cons.injEq, and_true] at q1
    rw [enc_qact]
    simp only [List.map_cons, List.map_nil, q1]
    rfl
/-- points and grants, as one argument -/
theorem open_plan {t tl tg tp tr ti tb : TypeId} (hk : flatStruct P t [tl, tg] = true) (hct : P.cellTypes P.depth t = some [tl, tg]) (hl : P.underlying tl = some (.slice tp)) (hg : P.underlying tg = some (.slice tr)) (hp : flatStruct P tp [ti, tb] = true) (hr : flatStruct P tr [ti, ti, tb] = true)
    (hi : P.underlying ti = some (.int .i64)) (hb : P.underlying tb = some .bool) (hcp : P.cellsOf tp = 2) (hcr : P.cellsOf tr = 3) {base : Nat} {v : Value} {d : DataW H} {ps : List MemPlace} (hval : Value.okWide P W .any base t v) (h : DataW.Trod enc P W 0 (fun _ => true) true t v d ps) :
    ∃ (lv gv : V) (ls : List Pt) (gs : List Gr), absV W.heap.size v = .agg #[lv, gv] ∧ Sl (heap0 W) lv ls ∧ Sl (heap0 W) gv gs := by
  obtain ⟨cs, rfl, hcl, hok⟩ := struct_ok hk hct hval
  obtain ⟨fuel, hf⟩ := h
  have hcells : (Value.agg cs.toArray).cells.toList = cs := by simp [Value.cells]
  rw [hcells] at hf
  obtain ⟨_, m, ds, hdl, hx, hrd⟩ := flat_read hk hf
  obtain ⟨c0, d0, e0, f0, r0⟩ := hrd 0 tl rfl
  obtain ⟨c1, d1, e1, f1, r1⟩ := hrd 1 tg rfl
  have o0 := hok 0 tl c0 rfl e0
  have o1 := hok 1 tg c1 rfl e1
  obtain ⟨s0, t0⟩ := ok_slc hl o0
  obtain ⟨s1, t1⟩ := ok_slc hg o1
  have T0 : DataW.Trod enc P W 0 (fun _ => true) true tl c0 d0.1 d0.2 := ⟨m, by
    obtain ⟨a, l, c, rfl⟩ := t0
    exact r0⟩
  have T1 : DataW.Trod enc P W 0 (fun _ => true) true tg c1 d1.1 d1.2 := ⟨m, by
    obtain ⟨a, l, c, rfl⟩ := t1
    exact r1⟩
  obtain ⟨ls, hls, _, _⟩ := open_gen (α := Pt) (datR := fun _ _ => True) (good := fun _ => True) hl hcp (fun _ n cs x hx => by
    obtain ⟨a, q, _, _⟩ := op_pt hp hi hb n cs x hx
    exact ⟨a, q, trivial, trivial⟩) s0 t0 T0
  obtain ⟨gs, hgs, _, _⟩ := open_gen (α := Gr) (datR := fun _ _ => True) (good := fun _ => True) hg hcr (fun _ n cs x hx => by
    obtain ⟨a, q, _, _⟩ := op_gr hr hi hb n cs x hx
    exact ⟨a, q, trivial, trivial⟩) s1 t1 T1
  refine ⟨_, _, ls, gs, ?_, hls, hgs⟩
  match cs, hcl with
  | [_, _], _ =>
    simp only [List.getElem?_cons_zero, List.getElem?_cons_succ] at e0 e1
    cases e0; cases e1
    obtain ⟨a, l, c, rfl⟩ := t0
    obtain ⟨a', l', c', rfl⟩ := t1
    simp [absV]
theorem open_qacts {t te ti tn ts tx : TypeId} (ht : P.underlying t = some (.slice te)) (hce : P.cellsOf te = 5) (hk : flatStruct P te [ti, ti, ti, tn, ts] = true) (hi : P.underlying ti = some (.int .i64)) (hn : P.underlying tn = some (.int .i64)) (hs : P.underlying ts = some (.slice tx)) (htx : P.underlying tx = some (.int .i64)) (hcx : P.cellsOf tx = 1)
    {base : Nat} {v : Value} {d : DataW H} {ps : List MemPlace} (hval : Value.okWide P W .any base t v) (h : DataW.Trod enc P W 0 (fun _ => true) true t v d ps) : ∃ acts : List QAct, Acts (heap0 W) (absV W.heap.size v) acts := by
  have hc : Cell.okWide P W .any base t v := by simpa only [Value.okWide, ht] using hval
  obtain ⟨s1, s2⟩ := ok_slc ht hc
  obtain ⟨xs, h1, h2, _⟩ := open_gen (α := QAct) (datR := fun _ _ => True) (good := goodQ (heap0 W)) ht hce (fun hN n cs x hx => by
    obtain ⟨a, q1, q2⟩ := op_qact hk hi hn hs htx hcx hN n cs x hx
    exact ⟨a, q1, trivial, q2⟩) s1 s2 h
  exact ⟨xs, h1, h2⟩
end
end Go.AM.Cap
