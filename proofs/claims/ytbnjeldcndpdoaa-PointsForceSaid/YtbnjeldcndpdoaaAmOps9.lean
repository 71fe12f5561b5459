import Derived.Test.YtbnjeldcndpdoaaAmOps8
set_option linter.all false
/- Operations that make and write memory: all of them. -/
namespace Go.AM
open Go.RowKit (Below)

variable {P : Program} {N : Nat} {w₀ : World} {ρ : Ren} {H : Heap} {w : World}

/-- what an operation hands on: a value, or nothing -/
def Hands (nx : Next) (r' : V) : Prop := nx = .value r' ∨ (nx = .skip ∧ r' = undef)

theorem goes_same {r : V} {H' : Heap} {w' : World} (h : Rel N w₀ ρ H' w') (g : Ext ρ H w ρ H' w') (hr : r = undef) : Goes N w₀ ρ H w r H' undef w' := by
  subst hr; exact ⟨ρ, .undef _, h, g⟩

theorem act_sound (h : Rel N w₀ ρ H w) {e c : Operand → V} (hr : ∀ z, VRel ρ (e z) (c z)) (o : Oper) {r : V} {H' : Heap} (hl : actM P e o.op H = some (r, H')) :
    ∃ nx r' w', (execOp c o).run P w = .ok nx w' ∧ Hands nx r' ∧ Goes N w₀ ρ H w r H' r' w' := by
  obtain ⟨dst, op, ty, pos, after, guard⟩ := o
  simp only at hl
  cases op <;> simp only [actM] at hl <;> first | exact (fail_ne hl).elim | skip
  case alloc el =>
    cases hz : zeroV P el with
    | none => simp only [hz] at hl; exact (fail_ne hl).elim
    | some z =>
      simp only [hz] at hl
      obtain ⟨r', w', g1, g2⟩ := newc_sound (P := P) h hz hl
      exact ⟨.value r', r', w', by simp [execOp, g1], .inl rfl, g2⟩
  case box el x =>
    obtain ⟨r', w', g1, g2⟩ := boxv_sound (P := P) (t := el) h (hr x) hl
    exact ⟨.value r', r', w', by simp [execOp, g1], .inl rfl, g2⟩
  case buildSlice t len parts =>
    generalize hu : P.underlying t = d at hl
    split at hl
    all_goals first | exact (fail_ne hl).elim | skip
    rename_i el
    generalize hs : sizeT P el = s at hl
    generalize hz : zeroV P el = z at hl
    split at hl
    all_goals first | exact (fail_ne hl).elim | skip
    rename_i n z
    split at hl
    all_goals first | exact (fail_ne hl).elim | skip
    rename_i hc
    obtain ⟨r', w', g1, g2⟩ := bslc_sound (P := P) h hr hu hs hz hc.1 hc.2.1 hc.2.2 hl
    exact ⟨.value r', r', w', by simp [execOp, g1], .inl rfl, g2⟩
  case store t a x =>
    cases hk : tk P t with
    | none => simp only [hk] at hl; exact (fail_ne hl).elim
    | some k =>
      cases k with
      | one =>
        simp only [hk] at hl
        obtain ⟨g0, w', g1, g2, g3⟩ := st1_sound (P := P) h hk hl (hr a) (hr x)
        exact ⟨.skip, undef, w', by simp [execOp, g1], .inr ⟨rfl, rfl⟩, goes_same g2 g3 g0⟩
      | agg n =>
        simp only [hk] at hl
        obtain ⟨g0, w', g1, g2, g3⟩ := stn_sound (P := P) h hk hl (hr a) (hr x)
        exact ⟨.skip, undef, w', by simp [execOp, g1], .inr ⟨rfl, rfl⟩, goes_same g2 g3 g0⟩
  case convert src dst x =>
    generalize hs : P.underlying src = s at hl
    generalize hd : P.underlying dst = d at hl
    split at hl
    all_goals first | exact (fail_ne hl).elim | skip
    rename_i el
    generalize hel : P.underlying el = ed at hl
    split at hl
    all_goals first | exact (fail_ne hl).elim | skip
    obtain ⟨s, r', w', g0, g1, g2⟩ := s2b_sound (P := P) (e := el) h (hr x) hl
    refine ⟨.value r', r', w', ?_, .inl rfl, g2⟩
    simp [execOp, convert, run_underlying hs, run_underlying hd, g0, run_underlying hel, g1]
  case insert t m k v =>
    generalize hu : P.underlying t = d at hl
    split at hl
    all_goals first | exact (fail_ne hl).elim | skip
    rename_i kt et
    generalize hkk : keyT P kt = kk at hl
    split at hl
    all_goals first | exact (fail_ne hl).elim | skip
    obtain ⟨g0, w', g1, g2, g3⟩ := mapSet_sound (P := P) h hu hkk hl (hr m) (hr k) (hr v)
    exact ⟨.skip, undef, w', by simp [execOp, g1], .inr ⟨rfl, rfl⟩, goes_same g2 g3 g0⟩
  case makeMap t reserve =>
    cases reserve with
    | none =>
      obtain ⟨r', w', g1, g2, g3⟩ := mkmap_sound (P := P) h hl
      refine ⟨.value r', r', w', ?_, .inl rfl, g3⟩
      simp only [execOp, Instr.makeMap, Option.map_none, Sem.run_bind, Sem.run_pure, Result.andThen_ok, g1, g2]
    | some hint =>
      simp only at hl
      generalize hu : P.underlying t = d at hl
      generalize hh : e hint = q at hl
      split at hl
      all_goals first | exact (fail_ne hl).elim | skip
      have hq := hr hint
      rw [hh] at hq
      obtain ⟨r', w', g1, g2, g3⟩ := mkmap_sound (P := P) h hl
      refine ⟨.value r', r', w', ?_, .inl rfl, g3⟩
      simp only [execOp, Instr.makeMap, Option.map_some, Sem.run_bind, Sem.run_pure, Result.andThen_ok, run_underlying hu, hq.int_inv, asInt, asIntOf, g1, g2]
  case makeSlice t l k =>
    generalize hu : P.underlying t = d at hl
    split at hl
    all_goals first | exact (fail_ne hl).elim | skip
    rename_i el
    generalize hs : sizeT P el = s at hl
    generalize hb : bytesT P el = b at hl
    generalize hz : zeroV P el = z at hl
    split at hl
    all_goals first | exact (fail_ne hl).elim | skip
    split at hl
    all_goals first | exact (fail_ne hl).elim | skip
    rename_i hc
    obtain ⟨r', w', g1, g2⟩ := mkslc_sound (P := P) h hu hs hb hz hc.1 hc.2 (hr l) (hr k) hl
    exact ⟨.value r', r', w', by simp [execOp, g1], .inl rfl, g2⟩
  case mapUpdate t m k v =>
    generalize hu : P.underlying t = d at hl
    split at hl
    all_goals first | exact (fail_ne hl).elim | skip
    rename_i kt et
    generalize hkk : keyT P kt = kk at hl
    split at hl
    all_goals first | exact (fail_ne hl).elim | skip
    obtain ⟨g0, w', g1, g2, g3⟩ := mapSet_sound (P := P) h hu hkk hl (hr m) (hr k) (hr v)
    exact ⟨.skip, undef, w', by simp [execOp, g1], .inr ⟨rfl, rfl⟩, goes_same g2 g3 g0⟩
  case call cl =>
    obtain ⟨callee, args, argTypes⟩ := cl
    simp only at hl
    cases callee <;> simp only at hl <;> first | exact (fail_ne hl).elim | skip
    rename_i b
    obtain ⟨args⟩ := args
    obtain ⟨ts⟩ := argTypes
    simp only [actB] at hl
    split at hl
    all_goals first | exact (fail_ne hl).elim | skip
    · rename_i s x t u
      generalize hu : P.underlying t = d at hl
      split at hl
      all_goals first | exact (fail_ne hl).elim | skip
      rename_i el
      generalize hs : sizeT P el = sz at hl
      generalize hb : bytesT P el = by_ at hl
      generalize hz : zeroV P el = z at hl
      split at hl
      all_goals first | exact (fail_ne hl).elim | skip
      split at hl
      all_goals first | exact (fail_ne hl).elim | skip
      rename_i hc
      generalize hd : P.underlying u = du at hl
      split at hl
      all_goals first | exact (fail_ne hl).elim | skip
      · obtain ⟨r', w', g1, g2⟩ := appV_sound (P := P) (ty := ty) h hu hd hs hb hz hc.1 hc.2.1 hc.2.2 (hr s) (hr x) hl
        exact ⟨.value r', r', w', by simp [execOp, resolve, invoke, builtin, g1], .inl rfl, g2⟩
      · split at hl
        all_goals first | exact (fail_ne hl).elim | skip
        rename_i h1
        obtain ⟨rfl, rfl⟩ := h1
        obtain ⟨r', w', g1, g2⟩ := appS_sound (P := P) (ty := ty) h hu hd hs hb hz hc.1 (hr s) (hr x) hl
        exact ⟨.value r', r', w', by simp [execOp, resolve, invoke, builtin, g1], .inl rfl, g2⟩
      · obtain ⟨r', w', g1, g2⟩ := appZ_sound (P := P) (ty := ty) h hu hd hs hb hz hc.1 hc.2.1 hc.2.2 (hr s) (hr x) hl
        exact ⟨.value r', r', w', by simp [execOp, resolve, invoke, builtin, g1], .inl rfl, g2⟩
    · rename_i d x t u
      generalize hu : P.underlying t = dt at hl
      split at hl
      all_goals first | exact (fail_ne hl).elim | skip
      rename_i el
      generalize hs : sizeT P el = sz at hl
      split at hl
      all_goals first | exact (fail_ne hl).elim | skip
      obtain ⟨r', w', g1, g2⟩ := cpy_sound (P := P) (u := u) (ty := ty) h hu hs (hr d) (hr x) hl
      exact ⟨.value r', r', w', by simp [execOp, resolve, invoke, builtin, g1], .inl rfl, g2⟩
    · rename_i m k t u
      generalize hu : P.underlying t = dt at hl
      split at hl
      all_goals first | exact (fail_ne hl).elim | skip
      rename_i kt et
      generalize hkk : keyT P kt = kk at hl
      split at hl
      all_goals first | exact (fail_ne hl).elim | skip
      obtain ⟨g0, w', g1, g2, g3⟩ := mapDel_sound (P := P) (u := u) (ty := ty) h hu hkk hl (hr m) (hr k)
      exact ⟨.value undef, undef, w', by simp [execOp, resolve, invoke, builtin, g1, undef], .inl rfl, goes_same g2 g3 g0⟩

/-- an operation that makes a block: wherever it may lie -/
theorem mk_sound (hN : N ≤ w.heap.size) {e c : Operand → V} (hr : ∀ z, VRel ρ (e z) (c z)) (o : Oper) (hmk : isMk P o.op = true) {v : V} {K : Heap} (hl : actM P e o.op Heap.none0 = some (v, K)) :
    ∃ x, K = Heap.one x ∧ ∃ r' w', (execOp c o).run P w = .ok (.value r') w' ∧ MkOK N ρ w v x r' w' := by
  obtain ⟨dst, op, ty, pos, after, guard⟩ := o
  simp only at hl hmk
  cases op <;> simp only [isMk] at hmk <;> first | (cases hmk; done) | skip
  all_goals simp only [actM] at hl
  case alloc el =>
    cases hz : zeroV P el with
    | none => simp only [hz] at hl; exact (fail_ne hl).elim
    | some z =>
      simp only [hz] at hl
      obtain ⟨x, hx, r', w', g1, g2⟩ := newc_mk (P := P) (ρ := ρ) hN hz hl
      exact ⟨x, hx, r', w', by simp [execOp, g1], g2⟩
  case box el y =>
    obtain ⟨x, hx, r', w', g1, g2⟩ := boxv_mk (P := P) (t := el) hN (hr y) hl
    exact ⟨x, hx, r', w', by simp [execOp, g1], g2⟩
  case buildSlice t len parts =>
    generalize hu : P.underlying t = d at hl
    split at hl
    all_goals first | exact (fail_ne hl).elim | skip
    rename_i el
    generalize hs : sizeT P el = s at hl
    generalize hz : zeroV P el = z at hl
    split at hl
    all_goals first | exact (fail_ne hl).elim | skip
    rename_i n z
    split at hl
    all_goals first | exact (fail_ne hl).elim | skip
    rename_i hc
    obtain ⟨x, hx, r', w', g1, g2⟩ := bslc_mk (P := P) (t := t) hN hr hu hs hz hc.1 hc.2.1 hc.2.2 hl
    exact ⟨x, hx, r', w', by simp [execOp, g1], g2⟩
  case convert src dst y =>
    generalize hs : P.underlying src = s at hl
    generalize hd : P.underlying dst = d at hl
    split at hl
    all_goals first | exact (fail_ne hl).elim | skip
    rename_i el
    generalize hel : P.underlying el = ed at hl
    split at hl
    all_goals first | exact (fail_ne hl).elim | skip
    obtain ⟨x, hx, s, r', w', g0, g1, g2⟩ := s2b_mk (P := P) (e := el) hN (hr y) hl
    refine ⟨x, hx, r', w', ?_, g2⟩
    simp [execOp, convert, run_underlying hs, run_underlying hd, g0, run_underlying hel, g1]
  case makeMap t reserve =>
    cases reserve with
    | none =>
      simp only [mkmap] at hl; cases hl
      refine ⟨.map true [], rfl, .map (some w.heap.size), w.alloc (.map #[] 0), ?_, mkmap_mk hN⟩
      simp only [execOp, Instr.makeMap, Option.map_none, Sem.run_bind, Sem.run_pure, Result.andThen_ok, run_newObj]; rfl
    | some hint =>
      simp only at hl
      generalize hu : P.underlying t = d at hl
      generalize hh : e hint = q at hl
      split at hl
      all_goals first | exact (fail_ne hl).elim | skip
      have hq := hr hint
      rw [hh] at hq
      simp only [mkmap] at hl; cases hl
      refine ⟨.map true [], rfl, .map (some w.heap.size), w.alloc (.map #[] 0), ?_, mkmap_mk hN⟩
      simp only [execOp, Instr.makeMap, Option.map_some, Sem.run_bind, Sem.run_pure, Result.andThen_ok, run_underlying hu, hq.int_inv, asInt, asIntOf, run_newObj]; rfl
  case makeSlice t l k =>
    generalize hu : P.underlying t = d at hl
    split at hl
    all_goals first | exact (fail_ne hl).elim | skip
    rename_i el
    generalize hs : sizeT P el = s at hl
    generalize hb : bytesT P el = b at hl
    generalize hz : zeroV P el = z at hl
    split at hl
    all_goals first | exact (fail_ne hl).elim | skip
    split at hl
    all_goals first | exact (fail_ne hl).elim | skip
    rename_i hc
    obtain ⟨x, hx, r', w', g1, g2⟩ := mkslc_mk (P := P) (t := t) hN hu hs hb hz hc.1 hc.2 (hr l) (hr k) hl
    exact ⟨x, hx, r', w', by simp [execOp, g1], g2⟩

/-- what a called function comes to -/
def SimF (P : Program) (f : FuncId) (F : List V → M V) : Prop :=
  ∀ (N : Nat) (w₀ : World) (ρ : Ren) (H : Heap) (w : World) (args args' : List V) (r : V) (H' : Heap), P.globals.size ≤ N → Rel N w₀ ρ H w → LRel ρ args args' → F args H = some (r, H') →
    Calls P f args'.toArray w fun e w' => ∃ r', e = .returned r' ∧ Goes N w₀ ρ H w r H' r' w'

/-- functions that the model enters -/
def plainF (P : Program) (f : FuncId) : Bool := match P.funcs[f]? with
  | some fn => fn.name != "runtime.NumGoroutine" && fn.body.isSome
  | none => false

theorem callFunc_run {f : FuncId} (hp : plainF P f = true) (args : Array V) (w : World) : (callFunc f args).run P w = .ok (.enter f args) w := by
  unfold plainF at hp
  split at hp
  · rename_i fn hfn
    simp only [Bool.and_eq_true, bne_iff_ne, ne_eq, Option.isSome_iff_exists] at hp
    obtain ⟨h1, c, h2⟩ := hp
    simp [callFunc, hfn, h1, h2]
  · cases hp

/-- each known function is as it is known -/
def SimAll (P : Program) (σ : Calls') : Prop := ∀ f args H r H', σ f args H = some (r, H') → plainF P f = true ∧ SimF P f (σ f)

theorem argsOf_rel {en : Env} {c : Operand → V} (hr : ∀ z, VRel ρ (evO P en z) (c z)) : ∀ l : List Operand, LRel ρ (argsOf P en l) (l.map c)
  | [] => .nil
  | x :: xs => .cons (hr x) (argsOf_rel hr xs)

theorem call_sound {σ : Calls'} (hσ : SimAll P σ) (hG : P.globals.size ≤ N) (h : Rel N w₀ ρ H w) {f f' : V} {args args' : List V} {r : V} {H' : Heap} (hf : VRel ρ f f') (ha : LRel ρ args args') (hl : callM σ f args H = some (r, H')) (c : Call) (cv : Operand → V) (fo : Operand) (ty : TypeId)
    (hc : c.callee = .value fo) (hfo : cv fo = f') (hargs : (c.args.map cv).toList = args') :
    ∃ g gargs, ((do let d ← resolve cv c ty; invoke d.target d.args) : Sem Next).run P w = .ok (.enter g gargs) w ∧ Calls P g gargs w fun e w' => ∃ r', e = .returned r' ∧ Goes N w₀ ρ H w r H' r' w' := by
  unfold callM at hl
  split at hl
  · rename_i g x y
    have hfi : ∃ x' y', f' = .func (.func g) x' y' ∧ LRel ρ x.toList x'.toList ∧ LRel ρ y.toList y'.toList := by
      cases hf; exact ⟨_, _, rfl, arel (by assumption) (by assumption), arel (by assumption) (by assumption)⟩
    obtain ⟨x', y', rfl, hx, hy⟩ := hfi
    obtain ⟨hp, hs⟩ := hσ _ _ _ _ _ hl
    have hall : LRel ρ (x.toList ++ (args ++ y.toList)) (x'.toList ++ (args' ++ y'.toList)) := hx.append (ha.append hy)
    refine ⟨g, (x'.toList ++ (args' ++ y'.toList)).toArray, ?_, hs N w₀ ρ H w _ _ r H' hG h hall hl⟩
    have harr : c.args.map cv = args'.toArray := by apply Array.ext'; simpa using hargs
    simp only [resolve, hc, hfo, harr, Deferred.ofValue, Sem.run_bind, Sem.run_pure, Result.andThen_ok, invoke]
    rw [callFunc_run hp]
    congr 2
    apply Array.ext'
    simp
  · exact (fail_ne hl).elim

end Go.AM
