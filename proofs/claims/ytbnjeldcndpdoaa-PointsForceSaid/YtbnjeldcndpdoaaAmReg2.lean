import Derived.Test.YtbnjeldcndpdoaaAmReg1
import Derived.Orders
set_option linter.all false
/- Regions whose order is drawn: words. -/
namespace Go.AM
open Go.RowKit (Below)

variable {P : Program} {N : Nat} {w₀ : World} {ρ : Ren} {H : Heap} {w : World} {σ : Calls'} {n : Nat}

/-! ### an operation looks at its operands alone -/

theorem partsF_congr {pl : List (Nat × Nat)} {e c : Operand → V} : ∀ (ps : List (Nat × Operand)), (∀ p ∈ ps, e p.2 = c p.2) → partsF pl e ps = partsF pl c ps
  | [], _ => rfl
  | (i, x) :: ps, h => by
    have h1 : e x = c x := h (i, x) (by simp)
    simp only [partsF, h1, partsF_congr ps fun p hp => h p (by simp [hp])]
theorem placesE_congr {size : Nat} {e c : Operand → V} : ∀ (ps : List (Nat × Operand)), (∀ p ∈ ps, e p.2 = c p.2) → placesE size e ps = placesE size c ps
  | [], _ => rfl
  | (i, x) :: ps, h => by
    have h1 : e x = c x := h (i, x) (by simp)
    simp only [placesE, h1, placesE_congr ps fun p hp => h p (by simp [hp])]

theorem pureB_congr {e c : Operand → V} (b : Builtin) (args : List Operand) (ts : List TypeId) (h : ∀ z ∈ args, e z = c z) : pureB P e b args ts = pureB P c b args ts := by
  unfold pureB
  split <;> simp_all
theorem readB_congr {e c : Operand → V} (b : Builtin) (args : List Operand) (ts : List TypeId) (h : ∀ z ∈ args, e z = c z) : readB P e b args ts = readB P c b args ts := by
  unfold readB
  split <;> simp_all
theorem actB_congr {e c : Operand → V} (b : Builtin) (args : List Operand) (ts : List TypeId) (h : ∀ z ∈ args, e z = c z) : actB P e b args ts = actB P c b args ts := by
  unfold actB
  split <;> simp_all

theorem mem_parts {parts : Array (Nat × Operand)} {p : Nat × Operand} (hp : p ∈ parts.toList) : p.2 ∈ (parts.toList.map (·.2)).toArray := by
  simp only [List.mem_toArray, List.mem_map]
  exact ⟨p, hp, rfl⟩

theorem optO_congr {e c : Operand → V} (x : Option Operand) (h : ∀ z ∈ x.toArray, e z = c z) : optO e x = optO c x := by
  cases x with
  | none => rfl
  | some x => simp only [optO]; rw [h x (by simp)]

theorem eqM_congr {e c : Operand → V} (neg : Bool) (t : TypeId) (x y : Operand) (hx : e x = c x) (hy : e y = c y) : eqM P neg t x y e = eqM P neg t x y c := by
  simp only [eqM, hx, hy]

theorem pureM_congr {e c : Operand → V} (op : Op) (h : ∀ z ∈ op.operands, e z = c z) : pureM P e op = pureM P c op := by
  cases op <;> simp only [Op.operands] at h <;> simp only [pureM]
  case move x => rw [h x (by simp)]
  case assign x => rw [h x (by simp)]
  case pick x y z => rw [h x (by simp), h y (by simp), h z (by simp)]
  case build t parts =>
    have h1 : ∀ pl, partsF pl e parts.toList = partsF pl c parts.toList := fun pl => partsF_congr parts.toList fun p hp => h p.2 (mem_parts hp)
    have h2 : ∀ k, placesE k e parts.toList = placesE k c parts.toList := fun k => placesE_congr parts.toList fun p hp => h p.2 (mem_parts hp)
    simp only [h1, h2]
  case nilCheck x => rw [h x (by simp)]
  case binOp op t x y yt =>
    have hx := h x (by simp); have hy := h y (by simp)
    cases op <;> simp only [hx, hy, eqM_congr _ t x y hx hy]
  case unOp op t x => rw [h x (by simp)]
  case convert s d x => rw [h x (by simp)]
  case makeInterface t x => rw [h x (by simp)]
  case makeFunc fn first captured =>
    rw [Array.map_congr_left (g := c) fun x hx => h x (by simp [hx]), Array.map_congr_left (xs := captured) (g := c) fun x hx => h x (by simp [hx])]
  case slice t x lo hi mx =>
    have hx := h x (by simp)
    have h1 := optO_congr (e := e) (c := c) lo fun z hz => h z (by simp [hz])
    have h2 := optO_congr (e := e) (c := c) hi fun z hz => h z (by simp [hz])
    cases mx <;> simp only [hx, h1, h2]
  case fieldAddr s x f => rw [h x (by simp)]
  case field t x f => rw [h x (by simp)]
  case indexAddr t x i => rw [h x (by simp), h i (by simp)]
  case index t x i => rw [h x (by simp), h i (by simp)]
  case extract t i => rw [h t (by simp)]
  case call cl =>
    obtain ⟨callee, args, argTypes⟩ := cl
    cases callee <;> simp only
    exact pureB_congr _ _ _ fun z hz => h z (by simpa [Call.operands] using hz)

theorem readM_congr {e c : Operand → V} (op : Op) (h : ∀ z ∈ op.operands, e z = c z) : readM P e op = readM P c op := by
  cases op <;> simp only [Op.operands] at h <;> simp only [readM]
  case load t x => rw [h x (by simp)]
  case convert s d x => rw [h x (by simp)]
  case lookup t x i ok => rw [h x (by simp), h i (by simp)]
  case call cl =>
    obtain ⟨callee, args, argTypes⟩ := cl
    cases callee <;> simp only
    exact readB_congr _ _ _ fun z hz => h z (by simpa [Call.operands] using hz)

theorem actM_congr {e c : Operand → V} (op : Op) (h : ∀ z ∈ op.operands, e z = c z) : actM P e op = actM P c op := by
  cases op <;> simp only [Op.operands] at h <;> simp only [actM]
  case box t x => rw [h x (by simp)]
  case buildSlice t len parts =>
    have h2 : ∀ k, placesE k e parts.toList = placesE k c parts.toList := fun k => placesE_congr parts.toList fun p hp => h p.2 (mem_parts hp)
    simp only [h2]
  case insert t x y z => rw [h x (by simp), h y (by simp), h z (by simp)]
  case store t x y => rw [h x (by simp), h y (by simp)]
  case convert s d x => rw [h x (by simp)]
  case makeMap t r => cases r with
    | none => rfl
    | some x => simp only; rw [h x (by simp)]
  case makeSlice t x y => rw [h x (by simp), h y (by simp)]
  case mapUpdate t x y z => rw [h x (by simp), h y (by simp), h z (by simp)]
  case call cl =>
    obtain ⟨callee, args, argTypes⟩ := cl
    cases callee <;> simp only
    exact actB_congr _ _ _ fun z hz => h z (by simpa [Call.operands] using hz)

theorem evO_congr {en en' : Env} (z : Operand) (h : ∀ t, z = .tmp t → en t = en' t) : evO P en z = evO P en' z := by
  cases z <;> simp only [evO]
  exact h _ rfl

theorem argsOf_congr {en en' : Env} : ∀ l : List Operand, (∀ z ∈ l, evO P en z = evO P en' z) → argsOf P en l = argsOf P en' l
  | [], _ => rfl
  | x :: xs, h => by simp only [argsOf]; rw [h x (by simp), argsOf_congr xs fun z hz => h z (by simp [hz])]

theorem opTmps_mem {o : Oper} {z : Operand} (hz : z ∈ o.op.operands) {t : Nat} (ht : z = .tmp t) : t ∈ opTmps o := by
  simp only [opTmps, List.mem_filterMap]
  exact ⟨z, by simpa using hz, by rw [ht]⟩

theorem operM_congr {en en' : Env} (o : Oper) (h : ∀ t ∈ opTmps o, en t = en' t) : operM P σ en o.op = operM P σ en' o.op := by
  have hz : ∀ z ∈ o.op.operands, evO P en z = evO P en' z := fun z hz => evO_congr z fun t ht => h t (opTmps_mem hz ht)
  unfold operM
  cases cls P o.op with
  | mv => simp only; rw [pureM_congr o.op hz]
  | pure => simp only; rw [pureM_congr o.op hz]
  | read => simp only; rw [readM_congr o.op hz]
  | act => simp only; rw [actM_congr o.op hz]
  | call =>
    simp only
    obtain ⟨dst, op, ty, pos, after, guard⟩ := o
    cases op <;> simp only
    rename_i cl
    obtain ⟨callee, args, argTypes⟩ := cl
    cases callee <;> simp only
    rename_i f
    have h1 := hz f (by simp [Op.operands, Call.operands])
    rw [h1, argsOf_congr args.toList fun z hz2 => hz z (by simp only [Op.operands, Call.operands]; simp at hz2; simp [hz2])]

theorem gdM_congr {ops : Array Oper} {en en' : Env} (o : Oper) (h : ∀ t ∈ usesD ops o, en t = en' t) : gdM P σ ops o en = gdM P σ ops o en' := by
  unfold gdM
  unfold usesD at h
  cases hg : guardSlot ops o with
  | none => rfl
  | some g =>
    cases g with
    | none => simp only [hg] at h ⊢; exact operM_congr o h
    | some dw =>
      obtain ⟨d, want⟩ := dw
      simp only [hg] at h ⊢
      rw [operM_congr o fun t ht => h t (by simp [ht]), h d (by simp)]

/-! ### quiet operations and readings -/

theorem lift_same {α : Type} {o : Option α} {r : α} {H' : Heap} (h : lift o H = some (r, H')) : H' = H ∧ ∀ K : Heap, lift o K = some (r, K) := by
  unfold lift at h ⊢
  cases o with
  | none => cases h
  | some v => cases h; exact ⟨rfl, fun _ => rfl⟩

theorem gd_lift {g : V} {want : Bool} {m : M V} {r : V} {H' : Heap} (hm : ∀ r H', m H = some (r, H') → H' = H ∧ ∀ K : Heap, m K = some (r, K)) (h : gd g want m H = some (r, H')) : H' = H ∧ ∀ K : Heap, gd g want m K = some (r, K) := by
  rcases gd_cases h with ⟨b, rfl, hq⟩ | ⟨hb, ht, rfl, rfl⟩
  · rcases hq with ⟨rfl, h1⟩ | ⟨hne, rfl, rfl⟩
    · obtain ⟨h2, h3⟩ := hm _ _ h1
      exact ⟨h2, fun K => by simp only [gd, beq_self_eq_true, if_true]; exact h3 K⟩
    · exact ⟨rfl, fun K => by simp only [gd]; rw [if_neg (by simpa using hne)]; rfl⟩
  · refine ⟨rfl, fun K => ?_⟩
    cases g <;> simp only [gd] at h ⊢ <;> first | rfl | exact absurd rfl (hb _) | skip
    split
    · rename_i hv; exact absurd (by simpa using hv) (fun q => ht (by rw [q]))
    · rfl

/-- a quiet operation is the same in every heap -/
theorem quiet_any {ops : Array Oper} {o : Oper} (hc : cls P o.op = .mv ∨ cls P o.op = .pure) {en : Env} {r : V} {H' : Heap} (h : gdM P σ ops o en H = some (r, H')) : H' = H ∧ ∀ K : Heap, gdM P σ ops o en K = some (r, K) := by
  have hop : ∀ (r : V) (H' : Heap), operM P σ en o.op H = some (r, H') → H' = H ∧ ∀ K : Heap, operM P σ en o.op K = some (r, K) := by
    intro r H' hq
    unfold operM at hq ⊢
    rcases hc with hc | hc <;> rw [hc] at hq ⊢ <;> exact lift_same hq
  unfold gdM at h ⊢
  cases hg : guardSlot ops o with
  | none => rw [hg] at h; exact (fail_ne h).elim
  | some g =>
    cases g with
    | none => rw [hg] at h; exact hop _ _ h
    | some dw => obtain ⟨d, want⟩ := dw; rw [hg] at h; exact gd_lift hop h

theorem readM_same {e : Operand → V} {op : Op} {r : V} {H' : Heap} (h : readM P e op H = some (r, H')) : H' = H := by
  cases op <;> simp only [readM] at h <;> first | exact (fail_ne h).elim | skip
  case load t a =>
    cases hk : tk P t with
    | none => simp only [hk] at h; exact (fail_ne h).elim
    | some k =>
      cases k with
      | one =>
        simp only [hk, ld1] at h
        split at h
        · split at h
          · cases h; rfl
          · cases h
        · cases h
      | agg n =>
        simp only [hk, ldn] at h
        split at h
        · split at h
          · cases h; rfl
          · cases h
        · cases h
  case convert s d x =>
    generalize P.underlying s = su at h
    generalize P.underlying d = du at h
    split at h
    all_goals first | exact (fail_ne h).elim | skip
    rename_i el
    generalize P.underlying el = eu at h
    split at h
    all_goals first | exact (fail_ne h).elim | skip
    unfold b2s at h
    split at h
    · cases h; rfl
    · split at h
      · split at h
        · cases h; rfl
        · cases h
      · cases h
    · cases h
  case lookup t m k ok =>
    generalize P.underlying t = su at h
    split at h
    all_goals first | exact (fail_ne h).elim | skip
    rename_i kt et
    generalize zeroV P et = z at h
    generalize keyT P kt = kk at h
    split at h
    all_goals first | exact (fail_ne h).elim | skip
    unfold AM.lookup at h
    split at h
    · split at h
      · split at h
        · split at h
          · cases h; rfl
          · cases h
        · cases h; rfl
        · cases h
      · cases h
    · cases h
  case call cl =>
    obtain ⟨callee, args, argTypes⟩ := cl
    cases callee <;> simp only at h <;> first | exact (fail_ne h).elim | skip
    simp only [readB] at h
    generalize args.toList = al at h
    generalize argTypes.toList = tl at h
    split at h
    all_goals first | exact (fail_ne h).elim | skip
    rename_i x t
    generalize P.underlying t = su at h
    split at h
    all_goals first | exact (fail_ne h).elim | skip
    unfold lenM at h
    split at h
    · cases h; rfl
    · cases h

theorem read_any {ops : Array Oper} {o : Oper} (hc : cls P o.op = .read) {en : Env} {r : V} {H' : Heap} (h : gdM P σ ops o en H = some (r, H')) : H' = H := by
  have hop : ∀ (r : V) (H' : Heap), operM P σ en o.op H = some (r, H') → H' = H := by
    intro r H' hq
    unfold operM at hq
    rw [hc] at hq
    exact readM_same hq
  unfold gdM at h
  cases hg : guardSlot ops o with
  | none => rw [hg] at h; exact (fail_ne h).elim
  | some g =>
    cases g with
    | none => rw [hg] at h; exact hop _ _ h
    | some dw =>
      obtain ⟨d, want⟩ := dw
      rw [hg] at h
      rcases gd_cases h with ⟨b, _, hq⟩ | ⟨_, _, _, hq⟩
      · rcases hq with ⟨_, h1⟩ | ⟨_, _, h1⟩
        · exact hop _ _ h1
        · exact h1
      · exact hq

/-- an operation that leaves the world alone, under its guard -/
theorem gd_still (hG : P.globals.size ≤ N) (h : Rel N w₀ ρ H w) {en : Env} {a : Act} (he : EnvRel n ρ en a) {ops : Array Oper} {o : Oper} (hc : cls P o.op = .mv ∨ cls P o.op = .pure ∨ cls P o.op = .read) {r : V} {H' : Heap} (hl : gdM P σ ops o en H = some (r, H'))
    {K : Act → World → Prop} {Q : Exit → Act → World → Prop} (hk : ∀ r', VRel ρ r r' → K (a.put o.dst r') w) : if Region.wanted o (yielded ops a.tmps) then o.wp P a w K Q else K (a.put o.dst undef) w := by
  have hr := evO_rel hG h he
  have hop : ∀ (r : V) (H' : Heap), operM P σ en o.op H = some (r, H') → (∀ r', VRel ρ r r' → K (a.put o.dst r') w) → o.wp P a w K Q := by
    intro r H' hq hk
    unfold Oper.wp
    unfold operM at hq
    have hpure : lift (pureM P (evO P en) o.op) H = some (r, H') → o.upon P a K Q ((execOp a.eval o).run P w) := by
      intro hl
      unfold lift at hl
      cases hp : pureM P (evO P en) o.op with
      | none => rw [hp] at hl; cases hl
      | some v =>
        rw [hp] at hl; cases hl
        obtain ⟨r', h1, h2⟩ := pure_sound (P := P) hr (fun _ => rfl) o hp
        rw [h2 w]
        exact hk r' h1
    rcases hc with hc | hc | hc <;> rw [hc] at hq
    · exact hpure hq
    · exact hpure hq
    · obtain ⟨rfl, r', h1, h2⟩ := read_sound (P := P) h hr o hq
      rw [h2]
      exact hk r' h1
  unfold gdM at hl
  cases hgd : o.guard with
  | none =>
    have : guardSlot ops o = some none := by simp [guardSlot, hgd]
    rw [this] at hl
    simp only [Region.wanted, hgd, if_true]
    exact hop _ _ hl hk
  | some jw =>
    obtain ⟨j, want⟩ := jw
    cases hj : ops[j]? with
    | none => simp only [guardSlot, hgd, hj] at hl; exact (fail_ne hl).elim
    | some oj =>
      cases hd : oj.dst with
      | none => simp only [guardSlot, hgd, hj, hd] at hl; exact (fail_ne hl).elim
      | some d =>
        have : guardSlot ops o = some (some (d, want)) := by simp [guardSlot, hgd, hj, hd]
        rw [this] at hl
        simp only at hl
        have hy := yielded_of (tmps := a.tmps) hj hd
        have hs := he.slot d
        simp only [Region.wanted, hgd]
        rcases gd_cases hl with ⟨b, hb, hq⟩ | ⟨hb, ht, e1, e2⟩
        · rw [hb] at hs
          rw [hy, hs.bool_inv]
          rcases hq with ⟨hbw, hm⟩ | ⟨hbw, e1, e2⟩
          · rw [if_pos (by simp [hbw])]
            exact hop _ _ hm hk
          · rw [if_neg (by simp [hbw])]
            subst e1; exact hk undef .skip
        · have hn : ∀ b, a.tmps.getD d undef ≠ .bool b := fun b hb2 => by
            rw [hb2] at hs
            rcases notBool hs with q | q
            · exact hb b q
            · exact ht q
          have hy2 : yielded ops a.tmps j = none := by
            rw [hy]
            split
            · rename_i b hb; exact absurd hb (hn b)
            · rfl
          rw [hy2, if_neg (by simp)]
          subst e1; exact hk undef .skip

end Go.AM
