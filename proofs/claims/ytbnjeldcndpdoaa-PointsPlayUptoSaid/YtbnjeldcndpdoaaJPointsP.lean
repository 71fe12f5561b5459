import Derived.Test.YtbnjeldcndpdoaaJPoints
import Derived.Test.YtbnjeldcndpdoaaRows
set_option linter.all false
/- points: how the arguments of PointsPlay are opened, with their bulk -/
namespace Go.AM.Cap
open Go.AM Go.Proofs Go.ChangeShapes Go.WideShapes Go.Proofs.Ytbnjeldcndpdoaa

theorem bulk_pos {H : Type} (d : DataW H) : 1 ≤ Rows.uptoBulk d := by
  cases d with
  | lit l => cases l <;> simp [Rows.uptoBulk]
  | _ => simp [Rows.uptoBulk]
theorem bulk_mem {H : Type} {d : DataW H} : ∀ {l : List (DataW H)}, d ∈ l → Rows.uptoBulk d ≤ Rows.uptoBulkAll l
  | x :: l, h => by
    rw [Rows.uptoBulkAll]
    rcases List.mem_cons.1 h with rfl | h
    · omega
    · have := bulk_mem h; omega
theorem bulk_count {H : Type} : ∀ l : List (DataW H), l.length ≤ Rows.uptoBulkAll l
  | [] => Nat.le_refl _
  | x :: l => by
    rw [Rows.uptoBulkAll, List.length_cons]
    have := bulk_count l
    have := bulk_pos x
    omega
theorem bulk_len {H : Type} {α : Type} {d : DataW H} {xs : List α} {R : DataW H → α → Prop} (h : (d = .nil ∧ xs = []) ∨ ∃ D rest, d = .slice ((List.range xs.length).map D) rest ∧ ∀ i y, xs[i]? = some y → R (D i) y) : xs.length ≤ Rows.uptoBulk d := by
  rcases h with ⟨_, rfl⟩ | ⟨D, rest, rfl, _⟩
  · exact Nat.zero_le _
  · have := bulk_count ((List.range xs.length).map D)
    rw [List.length_map, List.length_range] at this
    simp only [Rows.uptoBulk]
    omega
theorem bulk_part {H : Type} {i : Nat} {ds : List (DataW H × List MemPlace)} {d0 : DataW H × List MemPlace} (h : ds[i]? = some d0) : Rows.uptoBulk d0.1 ≤ Rows.uptoBulk (.agg (ds.map (·.1)) : DataW H) := by
  have := bulk_mem (List.mem_map_of_mem (f := (·.1)) (List.mem_of_getElem? h))
  simp only [Rows.uptoBulk]
  omega
section
variable {H : Type} {enc : TypeId × Value → H} {P : Program} {W : World}
theorem op_qact2 {t ti tn ts te : TypeId} (hk : flatStruct P t [ti, ti, ti, tn, ts] = true) (hi : P.underlying ti = some (.int .i64)) (hn : P.underlying tn = some (.int .i64)) (hs : P.underlying ts = some (.slice te)) (hte : P.underlying te = some (.int .i64)) (hce : P.cellsOf te = 1) (hN : 0 < W.heap.size)
    (n : Nat) (cs : List Value) (x : DataW H × List MemPlace) (h : DataW.trod enc P W 0 (fun _ => true) true n t cs = some x) :
    ∃ a : QAct, cs.map (absV W.heap.size) = Flat.enc a ∧ goodQ (heap0 W) a ∧ a.vv.xs.length ≤ Rows.uptoBulk x.1 := by
  obtain ⟨hl, m, ds, hdl, hx, hr⟩ := flat_read hk h
  obtain ⟨c0, d0, e0, f0, r0⟩ := hr 0 ti rfl
  obtain ⟨c1, d1, e1, f1, r1⟩ := hr 1 ti rfl
  obtain ⟨c2, d2, e2, f2, r2⟩ := hr 2 ti rfl
  obtain ⟨c3, d3, e3, f3, r3⟩ := hr 3 tn rfl
  obtain ⟨c4, d4, e4, f4, r4⟩ := hr 4 ts rfl
  obtain ⟨a0, h0, _, _⟩ := DataW.trod_int hi r0
  obtain ⟨a1, h1, _, _⟩ := DataW.trod_int hi r1
  obtain ⟨a2, h2, _, _⟩ := DataW.trod_int hi r2
  obtain ⟨a3, h3, _, _⟩ := DataW.trod_int hn r3
  obtain ⟨a4, q1, q2, _, q4⟩ := open_in (α := Int) (datR := fun _ _ => True) (good := fun _ => True) hs hce hN (fun n cs x hx => by
    obtain ⟨a, rfl, _, _⟩ := op_int hte n cs x hx
    exact ⟨a, rfl, trivial, trivial⟩) _ _ _ r4
  have hb4 : a4.xs.length ≤ Rows.uptoBulk x.1 := by
    rw [hx]
    exact Nat.le_trans (bulk_len (R := fun _ _ => True) q4) (bulk_part f4)
  cases h0; cases h1; cases h2; cases h3
  match cs, hl with
  | [_, _, _, _, _], _ =>
    simp only [List.getElem?_cons_zero, List.getElem?_cons_succ] at e0 e1 e2 e3 e4
    cases e0; cases e1; cases e2; cases e3; cases e4
    refine ⟨⟨a0, a1, a2, a3, a4⟩, ?_, q2, hb4⟩
    simp only [List.map_cons, List.map_nil, List.cons.injEq, and_true] at q1
    rw [enc_qact]
    simp only [List.map_cons, List.map_nil, q1]
    rfl
/-- points and grants, as one argument -/
theorem open_plan2 {t tl tg tp tr ti tb : TypeId} (hk : flatStruct P t [tl, tg] = true) (hct : P.cellTypes P.depth t = some [tl, tg]) (hl : P.underlying tl = some (.slice tp)) (hg : P.underlying tg = some (.slice tr)) (hp : flatStruct P tp [ti, tb] = true) (hr : flatStruct P tr [ti, ti, tb] = true)
    (hi : P.underlying ti = some (.int .i64)) (hb : P.underlying tb = some .bool) (hcp : P.cellsOf tp = 2) (hcr : P.cellsOf tr = 3) {base : Nat} {v : Value} {d : DataW H} {ps : List MemPlace} (hval : Value.okWide P W .any base t v) (h : DataW.Trod enc P W 0 (fun _ => true) true t v d ps) :
    ∃ (lv gv : V) (ls : List Pt) (gs : List Gr), absV W.heap.size v = .agg #[lv, gv] ∧ Sl (heap0 W) lv ls ∧ Sl (heap0 W) gv gs ∧ ls.length ≤ Rows.uptoBulk d := by
  obtain ⟨cs, rfl, hcl, hok⟩ := struct_ok hk hct hval
  obtain ⟨fuel, hf⟩ := h
  have hcells : (Value.agg cs.toArray).cells.toList = cs := by simp [Value.cells]
  rw [hcells] at hf
  obtain ⟨_, m, ds, hdl, hx, hrd⟩ := flat_read hk hf
  obtain ⟨c0, d0, e0, f0, r0⟩ := hrd 0 tl rfl
  obtain ⟨c1, d1, e1, f1, r1⟩ := hrd 1 tg rfl
  have o0 := hok 0 tl c0 rfl e0
  have o1 := hok 1 tg c1 rfl e1
  obtain ⟨s0, t0⟩ := ok_slc hl o0
  obtain ⟨s1, t1⟩ := ok_slc hg o1
  have T0 : DataW.Trod enc P W 0 (fun _ => true) true tl c0 d0.1 d0.2 := ⟨m, by
    obtain ⟨a, l, c, rfl⟩ := t0
    exact r0⟩
  have T1 : DataW.Trod enc P W 0 (fun _ => true) true tg c1 d1.1 d1.2 := ⟨m, by
    obtain ⟨a, l, c, rfl⟩ := t1
    exact r1⟩
  obtain ⟨ls, hls, _, hlb⟩ := open_gen (α := Pt) (datR := fun _ _ => True) (good := fun _ => True) hl hcp (fun _ n cs x hx => by
    obtain ⟨a, q, _, _⟩ := op_pt hp hi hb n cs x hx
    exact ⟨a, q, trivial, trivial⟩) s0 t0 T0
  obtain ⟨gs, hgs, _, _⟩ := open_gen (α := Gr) (datR := fun _ _ => True) (good := fun _ => True) hg hcr (fun _ n cs x hx => by
    obtain ⟨a, q, _, _⟩ := op_gr hr hi hb n cs x hx
    exact ⟨a, q, trivial, trivial⟩) s1 t1 T1
  have hbd : ls.length ≤ Rows.uptoBulk d := by
    have hx' : d = _ := hx
    rw [hx']
    exact Nat.le_trans (bulk_len (R := fun _ _ => True) hlb) (bulk_part f0)
  refine ⟨_, _, ls, gs, ?_, hls, hgs, hbd⟩
  match cs, hcl with
  | [_, _], _ =>
    simp only [List.getElem?_cons_zero, List.getElem?_cons_succ] at e0 e1
    cases e0; cases e1
    obtain ⟨a, l, c, rfl⟩ := t0
    obtain ⟨a', l', c', rfl⟩ := t1
    simp [absV]
theorem open_qacts2 {t te ti tn ts tx : TypeId} (ht : P.underlying t = some (.slice te)) (hce : P.cellsOf te = 5) (hk : flatStruct P te [ti, ti, ti, tn, ts] = true) (hi : P.underlying ti = some (.int .i64)) (hn : P.underlying tn = some (.int .i64)) (hs : P.underlying ts = some (.slice tx)) (htx : P.underlying tx = some (.int .i64)) (hcx : P.cellsOf tx = 1)
    {base : Nat} {v : Value} {d : DataW H} {ps : List MemPlace} (hval : Value.okWide P W .any base t v) (h : DataW.Trod enc P W 0 (fun _ => true) true t v d ps) : ∃ acts : List QAct, Acts (heap0 W) (absV W.heap.size v) acts ∧ ∀ a ∈ acts, a.vv.xs.length ≤ Rows.uptoBulk d := by
  have hc : Cell.okWide P W .any base t v := by simpa only [Value.okWide, ht] using hval
  obtain ⟨s1, s2⟩ := ok_slc ht hc
  obtain ⟨xs, h1, h2, h3⟩ := open_gen (α := QAct) (datR := fun x a => a.vv.xs.length ≤ Rows.uptoBulk x) (good := goodQ (heap0 W)) ht hce (fun hN n cs x hx => by
    obtain ⟨a, q1, q2, q3⟩ := op_qact2 hk hi hn hs htx hcx hN n cs x hx
    exact ⟨a, q1, q3, q2⟩) s1 s2 h
  refine ⟨xs, ⟨h1, h2⟩, fun a ha => ?_⟩
  rcases h3 with ⟨_, rfl⟩ | ⟨D, rest, rfl, hD⟩
  · cases ha
  · obtain ⟨i, hi, rfl⟩ := List.getElem_of_mem ha
    have := hD i _ (List.getElem?_eq_getElem hi)
    refine Nat.le_trans this ?_
    have hm : D i ∈ (List.range xs.length).map D := List.mem_map_of_mem (List.mem_range.2 hi)
    have := bulk_mem hm
    simp only [Rows.uptoBulk]
    omega
end
end Go.AM.Cap
