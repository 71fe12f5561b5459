import Derived.Test.YtbnjeldcndpdoaaAmReg1
import Derived.Orders
set_option linter.all false
/- Regions whose order is drawn: words. -/
namespace Go.AM
open Go.RowKit (Below)

variable {P : Program} {N : Nat} {w₀ : World} {ρ : Ren} {H : Heap} {w : World} {σ : Calls'} {n : Nat}

/-! ### an operation looks at its operands alone -/

theorem partsF_congr {pl : List (Nat × Nat)} {e c : Operand → V} : ∀ (ps : List (Nat × Operand)), (∀ p ∈ ps, e p.2 = c p.2) → partsF pl e ps = partsF pl c ps
  | [], _ => rfl
  | (i, x) :: ps, h => by
    have h1 : e x = c x := h (i, x) (by simp)
    simp only [partsF, h1, partsF_congr ps fun p hp => h p (by simp [hp])]
theorem placesE_congr {size : Nat} {e c : Operand → V} : ∀ (ps : List (Nat × Operand)), (∀ p ∈ ps, e p.2 = c p.2) → placesE size e ps = placesE size c ps
  | [], _ => rfl
  | (i, x) :: ps, h => by
    have h1 : e x = c x := h (i, x) (by simp)
    simp only [placesE, h1, placesE_congr ps fun p hp => h p (by simp [hp])]

theorem pureB_congr {e c : Operand → V} (b : Builtin) (args : List Operand) (ts : List TypeId) (h : ∀ z ∈ args, e z = c z) : pureB P e b args ts = pureB P c b args ts := by
  unfold pureB
  split <;> simp_all
theorem readB_congr {e c : Operand → V} (b : Builtin) (args : List Operand) (ts : List TypeId) (h : ∀ z ∈ args, e z = c z) : readB P e b args ts = readB P c b args ts := by
  unfold readB
  split <;> simp_all
theorem actB_congr {e c : Operand → V} (b : Builtin) (args : List Operand) (ts : List TypeId) (h : ∀ z ∈ args, e z = c z) : actB P e b args ts = actB P c b args ts := by
  unfold actB
  split <;> simp_all

theorem mem_parts {parts : Array (Nat × Operand)} {p : Nat × Operand} (hp : p ∈ parts.toList) : p.2 ∈ (parts.toList.map (·.2)).toArray := by
  simp only [List.mem_toArray, List.mem_map]
  exact ⟨p, hp, rfl⟩

theorem optO_congr {e c : Operand → V} (x : Option Operand) (h : ∀ z ∈ x.toArray, e z = c z) : optO e x = optO c x := by
  cases x with
  | none => rfl
  | some x => simp only [optO]; rw [h x (by simp)]

theorem eqM_congr {e c : Operand → V} (neg : Bool) (t : TypeId) (x y : Operand) (hx : e x = c x) (hy : e y = c y) : eqM P neg t x y e = eqM P neg t x y c := by
  simp only [eqM, hx, hy]

theorem pureM_congr {e c : Operand → V} (op : Op) (h : ∀ z ∈ op.operands, e z = c z) : pureM P e op = pureM P c op := by
  cases op <;> simp only [Op.operands] at h <;> simp only [pureM]
  case move x => rw [h x (by simp)]
  case assign x => rw [h x (by simp)]
  case pick x y z => rw [h x (by simp), h y (by simp), h z (by simp)]
  case build t parts =>
    have h1 : ∀ pl, partsF pl e parts.toList = partsF pl c parts.toList := fun pl => partsF_congr parts.toList fun p hp => h p.2 (mem_parts hp)
    have h2 : ∀ k, placesE k e parts.toList = placesE k c parts.toList := fun k => placesE_congr parts.toList fun p hp => h p.2 (mem_parts hp)
    simp only [h1, h2]
  case nilCheck x => rw [h x (by simp)]
  case binOp op t x y yt =>
    have hx := h x (by simp); have hy := h y (by simp)
    cases op <;> simp only [hx, hy, eqM_congr _ t x y hx hy]
  case unOp op t x => rw [h x (by simp)]
  case convert s d x => rw [h x (by simp)]
  case makeInterface t x => rw [h x (by simp)]
  case makeFunc fn first captured =>
    rw [Array.map_congr_left (g := c) fun x hx => h x (by simp [hx]), Array.map_congr_left (xs := captured) (g := c) fun x hx => h x (by simp [hx])]
  case slice t x lo hi mx =>
    have hx := h x (by simp)
    have h1 := optO_congr (e := e) (c := c) lo fun z hz => h z (by simp [hz])
    have h2 := optO_congr (e := e) (c := c) hi fun z hz => h z (by simp [hz])
    cases mx <;> simp only [hx, h1, h2]
  case fieldAddr s x f => rw [h x (by simp)]
  case field t x f => rw [h x (by simp)]
  case indexAddr t x i => rw [h x (by simp), h i (by simp)]
  case index t x i => rw [h x (by simp), h i (by simp)]
  case extract t i => rw [h t (by simp)]
  case call cl =>
    obtain ⟨callee, args, argTypes⟩ := cl
    cases callee <;> simp only
    exact pureB_congr _ _ _ fun z hz => h z (by simpa [Call.operands] using hz)

theorem readM_congr {e c : Operand → V} (op : Op) (h : ∀ z ∈ op.operands, e z = c z) : readM P e op = readM P c op := by
  cases op <;> simp only [Op.operands] at h <;> simp only [readM]
  case load t x => rw [h x (by simp)]
  case convert s d x => rw [h x (by simp)]
  case lookup t x i ok => rw [h x (by simp), h i (by simp)]
  case call cl =>
    obtain ⟨callee, args, argTypes⟩ := cl
    cases callee <;> simp only
    exact readB_congr _ _ _ fun z hz => h z (by simpa [Call.operands] using hz)

theorem actM_congr {e c : Operand → V} (op : Op) (h : ∀ z ∈ op.operands, e z = c z) : actM P e op = actM P c op := by
  cases op <;> simp only [Op.operands] at h <;> simp only [actM]
  case box t x => rw [h x (by simp)]
  case buildSlice t len parts =>
    have h2 : ∀ k, placesE k e parts.toList = placesE k c parts.toList := fun k => placesE_congr parts.toList fun p hp => h p.2 (mem_parts hp)
    simp only [h2]
  case insert t x y z => rw [h x (by simp), h y (by simp), h z (by simp)]
  case store t x y => rw [h x (by simp), h y (by simp)]
  case convert s d x => rw [h x (by simp)]
  case makeMap t r => cases r with
    | none => rfl
    | some x => simp only; rw [h x (by simp)]
  case makeSlice t x y => rw [h x (by simp), h y (by simp)]
  case mapUpdate t x y z => rw [h x (by simp), h y (by simp), h z (by simp)]
  case call cl =>
    obtain ⟨callee, args, argTypes⟩ := cl
    cases callee <;> simp only
    exact actB_congr _ _ _ fun z hz => h z (by simpa [Call.operands] using hz)

theorem evO_congr {en en' : Env} (z : Operand) (h : ∀ t, z = .tmp t → en t = en' t) : evO P en z = evO P en' z := by
  cases z <;> simp only [evO]
  exact h _ rfl

theorem argsOf_congr {en en' : Env} : ∀ l : List Operand, (∀ z ∈ l, evO P en z = evO P en' z) → argsOf P en l = argsOf P en' l
  | [], _ => rfl
  | x :: xs, h => by simp only [argsOf]; rw [h x (by simp), argsOf_congr xs fun z hz => h z (by simp [hz])]

theorem opTmps_mem {o : Oper} {z : Operand} (hz : z ∈ o.op.operands) {t : Nat} (ht : z = .tmp t) : t ∈ opTmps o := by
  simp only [opTmps, List.mem_filterMap]
  exact ⟨z, by simpa using hz, by rw [ht]⟩

theorem operM_congr {en en' : Env} (o : Oper) (h : ∀ t ∈ opTmps o, en t = en' t) : operM P σ en o.op = operM P σ en' o.op := by
  have hz : ∀ z ∈ o.op.operands, evO P en z = evO P en' z := fun z hz => evO_congr z fun t ht => h t (opTmps_mem hz ht)
  unfold operM
  cases cls P o.op with
  | mv => simp only; rw [pureM_congr o.op hz]
  | pure => simp only; rw [pureM_congr o.op hz]
  | read => simp only; rw [readM_congr o.op hz]
  | act => simp only; rw [actM_congr o.op hz]
  | call =>
    simp only
    obtain ⟨dst, op, ty, pos, after, guard⟩ := o
    cases op <;> simp only
    rename_i cl
    obtain ⟨callee, args, argTypes⟩ := cl
    cases callee <;> simp only
    rename_i f
    have h1 := hz f (by simp [Op.operands, Call.operands])
    rw [h1, argsOf_congr args.toList fun z hz2 => hz z (by simp only [Op.operands, Call.operands]; simp at hz2; simp [hz2])]

theorem gdM_congr {ops : Array Oper} {en en' : Env} (o : Oper) (h : ∀ t ∈ usesD ops o, en t = en' t) : gdM P σ ops o en = gdM P σ ops o en' := by
  unfold gdM
  unfold usesD at h
  cases hg : guardSlot ops o with
  | none => rfl
  | some g =>
    cases g with
    | none => simp only [hg] at h ⊢; exact operM_congr o h
    | some dw =>
      obtain ⟨d, want⟩ := dw
      simp only [hg] at h ⊢
      rw [operM_congr o fun t ht => h t (by simp [ht]), h d (by simp)]

/-! ### quiet operations and readings -/

theorem lift_same {α : Type} {o : Option α} {r : α} {H' : Heap} (h : lift o H = some (r, H')) : H' = H ∧ ∀ K : Heap, lift o K = some (r, K) := by
  unfold lift at h ⊢
  cases o with
  | none => cases h
  | some v => cases h; exact ⟨rfl, fun _ => rfl⟩

theorem gd_lift {g : V} {want : Bool} {m : M V} {r : V} {H' : Heap} (hm : ∀ r H', m H = some (r, H') → H' = H ∧ ∀ K : Heap, m K = some (r, K)) (h : gd g want m H = some (r, H')) : H' = H ∧ ∀ K : Heap, gd g want m K = some (r, K) := by
  rcases gd_cases h with ⟨b, rfl, hq⟩ | ⟨hb, ht, rfl, rfl⟩
  · rcases hq with ⟨rfl, h1⟩ | ⟨hne, rfl, rfl⟩
    · obtain ⟨h2, h3⟩ := hm _ _ h1
      exact ⟨h2, fun K => by simp only [gd, beq_self_eq_true, if_true]; exact h3 K⟩
    · exact ⟨rfl, fun K => by simp only [gd]; rw [if_neg (by simpa using hne)]; rfl⟩
  · refine ⟨rfl, fun K => ?_⟩
    cases g <;> simp only [gd] at h ⊢ <;> first | rfl | exact absurd rfl (hb _) | skip
    split
    · rename_i hv; exact absurd (by simpa using hv) (fun q => ht (by rw [q]))
    · rfl

/-- a quiet operation is the same in every heap -/
theorem quiet_any {ops : Array Oper} {o : Oper} (hc : cls P o.op = .mv ∨ cls P o.op = .pure) {en : Env} {r : V} {H' : Heap} (h : gdM P σ ops o en H = some (r, H')) : H' = H ∧ ∀ K : Heap, gdM P σ ops o en K = some (r, K) := by
  have hop : ∀ (r : V) (H' : Heap), operM P σ en o.op H = some (r, H') → H' = H ∧ ∀ K : Heap, operM P σ en o.op K = some (r, K) := by
    intro r H' hq
    unfold operM at hq ⊢
    rcases hc with hc | hc <;> rw [hc] at hq ⊢ <;> exact lift_same hq
  unfold gdM at h ⊢
  cases hg : guardSlot ops o with
  | none => rw [hg] at h; exact (fail_ne h).elim
  | some g =>
    cases g with
    | none => rw [hg] at h; exact hop _ _ h
    | some dw => obtain ⟨d, want⟩ := dw; rw [hg] at h; exact gd_lift hop h

theorem readM_same {e : Operand → V} {op : Op} {r : V} {H' : Heap} (h : readM P e op H = some (r, H')) : H' = H := by
  cases op <;> simp only [readM] at h <;> first | exact (fail_ne h).elim | skip
  case load t a =>
    cases hk : tk P t with
    | none => simp only [hk] at h; exact (fail_ne h).elim
    | some k =>
      cases k with
      | one =>
        simp only [hk, ld1] at h
        split at h
        · split at h
          · cases h; rfl
          · cases h
        · cases h
      | agg n =>
        simp only [hk, ldn] at h
        split at h
        · split at h
          · cases h; rfl
          · cases h
        · cases h
  case convert s d x =>
    generalize P.underlying s = su at h
    generalize P.underlying d = du at h
    split at h
    all_goals first | exact (fail_ne h).elim | skip
    rename_i el
    generalize P.underlying el = eu at h
    split at h
    all_goals first | exact (fail_ne h).elim | skip
    unfold b2s at h
    split at h
    · cases h; rfl
    · split at h
      · split at h
        · cases h; rfl
        · cases h
      · cases h
    · cases h
  case lookup t m k ok =>
    generalize P.underlying t = su at h
    split at h
    all_goals first | exact (fail_ne h).elim | skip
    rename_i kt et
    generalize zeroV P et = z at h
    generalize keyT P kt = kk at h
    split at h
    all_goals first | exact (fail_ne h).elim | skip
    unfold AM.lookup at h
    split at h
    · split at h
      · split at h
        · split at h
          · cases h; rfl
          · cases h
        · cases h; rfl
        · cases h
      · cases h
    · cases h
  case call cl =>
    obtain ⟨callee, args, argTypes⟩ := cl
    cases callee <;> simp only at h <;> first | exact (fail_ne h).elim | skip
    simp only [readB] at h
    generalize args.toList = al at h
    generalize argTypes.toList = tl at h
    split at h
    all_goals first | exact (fail_ne h).elim | skip
    rename_i x t
    generalize P.underlying t = su at h
    split at h
    all_goals first | exact (fail_ne h).elim | skip
    unfold lenM at h
    split at h
    · cases h; rfl
    · cases h

theorem read_any {ops : Array Oper} {o : Oper} (hc : cls P o.op = .read) {en : Env} {r : V} {H' : Heap} (h : gdM P σ ops o en H = some (r, H')) : H' = H := by
  have hop : ∀ (r : V) (H' : Heap), operM P σ en o.op H = some (r, H') → H' = H := by
    intro r H' hq
    unfold operM at hq
    rw [hc] at hq
    exact readM_same hq
  unfold gdM at h
  cases hg : guardSlot ops o with
  | none => rw [hg] at h; exact (fail_ne h).elim
  | some g =>
    cases g with
    | none => rw [hg] at h; exact hop _ _ h
    | some dw =>
      obtain ⟨d, want⟩ := dw
      rw [hg] at h
      rcases gd_cases h with ⟨b, _, hq⟩ | ⟨_, _, _, hq⟩
      · rcases hq with ⟨_, h1⟩ | ⟨_, _, h1⟩
        · exact hop _ _ h1
        · exact h1
      · exact hq

/-- an operation that leaves the world alone, under its guard -/
theorem gd_still (hG : P.globals.size ≤ N) (h : Rel N w₀ ρ H w) {en : Env} {a : Act} (he : EnvRel n ρ en a) {ops : Array Oper} {o : Oper} (hc : cls P o.op = .mv ∨ cls P o.op = .pure ∨ cls P o.op = .read) {r : V} {H' : Heap} (hl : gdM P σ ops o en H = some (r, H'))
    {K : Act → World → Prop} {Q : Exit → Act → World → Prop} (hk : ∀ r', VRel ρ r r' → K (a.put o.dst r') w) : if Region.wanted o (yielded ops a.tmps) then o.wp P a w K Q else K (a.put o.dst undef) w := by
  have hr := evO_rel hG h he
  have hop : ∀ (r : V) (H' : Heap), operM P σ en o.op H = some (r, H') → (∀ r', VRel ρ r r' → K (a.put o.dst r') w) → o.wp P a w K Q := by
    intro r H' hq hk
    unfold Oper.wp
    unfold operM at hq
    have hpure : lift (pureM P (evO P en) o.op) H = some (r, H') → o.upon P a K Q ((execOp a.eval o).run P w) := by
      intro hl
      unfold lift at hl
      cases hp : pureM P (evO P en) o.op with
      | none => rw [hp] at hl; cases hl
      | some v =>
        rw [hp] at hl; cases hl
        obtain ⟨r', h1, h2⟩ := pure_sound (P := P) hr (fun _ => rfl) o hp
        rw [h2 w]
        exact hk r' h1
    rcases hc with hc | hc | hc <;> rw [hc] at hq
    · exact hpure hq
    · exact hpure hq
    · obtain ⟨rfl, r', h1, h2⟩ := read_sound (P := P) h hr o hq
      rw [h2]
      exact hk r' h1
  unfold gdM at hl
  cases hgd : o.guard with
  | none =>
    have : guardSlot ops o = some none := by simp [guardSlot, hgd]
    rw [this] at hl
    simp only [Region.wanted, hgd, if_true]
    exact hop _ _ hl hk
  | some jw =>
    obtain ⟨j, want⟩ := jw
    cases hj : ops[j]? with
    | none => simp only [guardSlot, hgd, hj] at hl; exact (fail_ne hl).elim
    | some oj =>
      cases hd : oj.dst with
      | none => simp only [guardSlot, hgd, hj, hd] at hl; exact (fail_ne hl).elim
      | some d =>
        have : guardSlot ops o = some (some (d, want)) := by simp [guardSlot, hgd, hj, hd]
        rw [this] at hl
        simp only at hl
        have hy := yielded_of (tmps := a.tmps) hj hd
        have hs := he.slot d
        simp only [Region.wanted, hgd]
        rcases gd_cases hl with ⟨b, hb, hq⟩ | ⟨hb, ht, e1, e2⟩
        · rw [hb] at hs
          rw [hy, hs.bool_inv]
          rcases hq with ⟨hbw, hm⟩ | ⟨hbw, e1, e2⟩
          · rw [if_pos (by simp [hbw])]
            exact hop _ _ hm hk
          · rw [if_neg (by simp [hbw])]
            subst e1; exact hk undef .skip
        · have hn : ∀ b, a.tmps.getD d undef ≠ .bool b := fun b hb2 => by
            rw [hb2] at hs
            rcases notBool hs with q | q
            · exact hb b q
            · exact ht q
          have hy2 : yielded ops a.tmps j = none := by
            rw [hy]
            split
            · rename_i b hb; exact absurd hb (hn b)
            · rfl
          rw [hy2, if_neg (by simp)]
          subst e1; exact hk undef .skip

end Go.AM

/- Regions whose order is drawn: the run in one order, and what it says of all. -/
namespace Go.AM
open Go.RowKit (Below)

variable {P : Program} {N : Nat} {w₀ : World} {ρ : Ren} {H : Heap} {w : World} {σ : Calls'} {n : Nat} {ops : Array Oper} {fl : List Nat} {base : Nat}

/-- what a step comes to -/
def StepOK (P : Program) (σ : Calls') (ops : Array Oper) (base : Nat) (kd : KD) (o : Oper) (e : Env) (H : Heap) (v : V) (H' : Heap) : Prop := match kd with
  | .float j => o.guard = none ∧ isMk P o.op = true ∧ ∃ x v0, actM P (evO P e) o.op Heap.none0 = some (v0, Heap.one x) ∧ v = reloc (base + j) v0 ∧ H.get (base + j) = none ∧ base + j < H.next ∧ H' = H.set (base + j) (some x)
  | _ => gdM P σ ops o e H = some (v, H')

inductive Run (P : Program) (σ : Calls') (n : Nat) (ops : Array Oper) (fl : List Nat) (base : Nat) : List Nat → Env → Heap → List Tr → Env → Heap → Prop where
  | nil (e : Env) (H : Heap) : Run P σ n ops fl base [] e H [] e H
  | cons {i : Nat} {rest : List Nat} {e : Env} {H : Heap} {o : Oper} {v : V} {H' : Heap} {tr : List Tr} {ef : Env} {Hf : Heap} : ops[i]? = some o → StepOK P σ ops base (kindD P fl i o) o e H v H' →
      chainEnd (kindD P fl i o) H H' (kept fl base rest) = true → Run P σ n ops fl base rest (e.put n o.dst v) H' tr ef Hf → Run P σ n ops fl base (i :: rest) e H (⟨i, o, kindD P fl i o, e, H, v, H'⟩ :: tr) ef Hf

theorem plain_gd {o : Oper} {x : Operand} (h : plainMv o = some x) (e : Env) (H : Heap) : gdM P σ ops o e H = some (evO P e x, H) := by
  unfold plainMv at h
  split at h
  · rename_i y hg ho; cases h
    simp [gdM, guardSlot, hg, operM, ho, cls, pureM, lift]
  · rename_i y hg ho; cases h
    simp [gdM, guardSlot, hg, operM, ho, cls, pureM, lift]
  · cases h

theorem stepM_ok {kd : KD} {o : Oper} {e : Env} {v : V} {H' : Heap} (h : stepM P σ ops base kd o e H = some (v, H')) : StepOK P σ ops base kd o e H v H' := by
  cases kd <;> simp only [stepM] at h <;> try exact h
  rename_i j
  cases hg : o.guard with
  | some g => rw [hg] at h; exact (fail_ne h).elim
  | none =>
    rw [hg] at h
    simp only at h
    cases hmk : isMk P o.op with
    | false => rw [hmk] at h; simp only [cond_false] at h; exact (fail_ne h).elim
    | true =>
      rw [hmk] at h
      simp only [cond_true, flt] at h
      split at h
      · rename_i v0 K hx
        split at h
        · rename_i x hK
          rw [Heap.one?_inv hK] at hx
          split at h
          · rename_i hn
            cases hb : Nat.blt (base + j) H.next with
            | false => rw [hb] at h; cases h
            | true => rw [hb] at h; cases h; exact ⟨hg, hmk, x, v0, hx, rfl, hn, Nat.blt_eq.mp hb, rfl⟩
          · cases h
        · cases h
      · cases h

theorem runD_run {R : Type} {k : Env → List Tr → M R} {r : R} {Hr : Heap} : ∀ (l : List Nat) (e : Env) (H : Heap) (tr0 : List Tr), runD P σ n ops fl base l e tr0 k H = some (r, Hr) →
    ∃ tr ef Hf, Run P σ n ops fl base l e H tr ef Hf ∧ k ef (tr0 ++ tr) Hf = some (r, Hr)
  | [], e, H, tr0, h => ⟨[], e, H, .nil e H, by simpa [runD] using h⟩
  | i :: rest, e, H, tr0, h => by
    simp only [runD] at h
    cases ho : ops[i]? with
    | none => rw [ho] at h; exact (fail_ne h).elim
    | some o =>
      rw [ho] at h
      simp only at h
      have fin : ∀ v H', StepOK P σ ops base (kindD P fl i o) o e H v H' → chainEnd (kindD P fl i o) H H' (kept fl base rest) = true → runD P σ n ops fl base rest (e.put n o.dst v) (tr0 ++ [⟨i, o, kindD P fl i o, e, H, v, H'⟩]) k H' = some (r, Hr) →
          ∃ tr ef Hf, Run P σ n ops fl base (i :: rest) e H tr ef Hf ∧ k ef (tr0 ++ tr) Hf = some (r, Hr) := by
        intro v H' h1 h2 h3
        obtain ⟨tr, ef, Hf, g1, g2⟩ := runD_run rest _ H' _ h3
        exact ⟨_, ef, Hf, .cons ho h1 h2 g1, by simpa using g2⟩
      have gen : (match stepM P σ ops base (kindD P fl i o) o e H with
          | some (v, H') => need (chainEnd (kindD P fl i o) H H' (kept fl base rest)) (runD P σ n ops fl base rest (e.put n o.dst v) (tr0 ++ [⟨i, o, kindD P fl i o, e, H, v, H'⟩]) k) H'
          | none => none) = some (r, Hr) → ∃ tr ef Hf, Run P σ n ops fl base (i :: rest) e H tr ef Hf ∧ k ef (tr0 ++ tr) Hf = some (r, Hr) := by
        intro h
        split at h
        · rename_i v H' hst
          simp only [need] at h
          split at h
          · rename_i hce
            exact fin v H' (stepM_ok hst) hce h
          · cases h
        · cases h
      cases hp : plainMv o with
      | none => rw [hp] at h; exact gen h
      | some x =>
        rw [hp] at h
        cases hk : kindD P fl i o with
        | quiet =>
          rw [hk] at h
          have hfin := fin (evO P e x) H (by rw [hk]; exact plain_gd hp e H) (by rw [hk]; rfl)
          rw [hk] at hfin
          exact hfin h
        | read => rw [hk] at h gen; exact gen h
        | chain => rw [hk] at h gen; exact gen h
        | float j => rw [hk] at h gen; exact gen h

def envAfter (n : Nat) : List Tr → Env → Env
  | [], e => e
  | s :: r, e => envAfter n r (e.put n s.o.dst s.v)

theorem Run.split {perm : List Nat} {e ef : Env} {Hs Hf : Heap} {X : List Tr} {s : Tr} {Y : List Tr} : ∀ {tr : List Tr}, Run P σ n ops fl base perm e Hs tr ef Hf → tr = X ++ s :: Y →
    s.env = envAfter n X e ∧ StepOK P σ ops base s.kd s.o s.env s.H s.v s.H' ∧ ops[s.i]? = some s.o ∧ s.kd = kindD P fl s.i s.o ∧ chainEnd s.kd s.H s.H' (kept fl base (Y.map (·.i))) = true := by
  intro tr h
  induction h generalizing X with
  | nil => intro he; cases X <;> simp at he
  | @cons i rest e H o v H' tr ef Hf h1 h2 h3 h4 ih =>
    intro he
    have hmap : ∀ {p e H t ef Hf}, Run P σ n ops fl base p e H t ef Hf → t.map (·.i) = p := by
      intro p e H t ef Hf hr
      induction hr with
      | nil => rfl
      | cons _ _ _ _ ih => simp [ih]
    cases X with
    | nil =>
      simp only [List.nil_append, List.cons.injEq] at he
      obtain ⟨rfl, rfl⟩ := he
      exact ⟨rfl, h2, h1, rfl, by rw [hmap h4]; exact h3⟩
    | cons x X =>
      simp only [List.cons_append, List.cons.injEq] at he
      obtain ⟨rfl, rfl⟩ := he
      obtain ⟨g1, g2, g3, g4, g5⟩ := ih rfl
      exact ⟨by rw [g1]; rfl, g2, g3, g4, g5⟩

theorem Run.map_i {p : List Nat} {e ef : Env} {Hs Hf : Heap} {t : List Tr} (hr : Run P σ n ops fl base p e Hs t ef Hf) : t.map (·.i) = p := by
  induction hr with
  | nil => rfl
  | cons _ _ _ _ ih => simp [ih]

theorem Run.env_end {p : List Nat} {e ef : Env} {Hs Hf : Heap} {t : List Tr} (hr : Run P σ n ops fl base p e Hs t ef Hf) : ef = envAfter n t e := by
  induction hr with
  | nil => rfl
  | cons _ _ _ _ ih => exact ih

/-! ### versions of the heap -/

def cnt : List Tr → Nat
  | [] => 0
  | s :: r => (if s.kd.isChain then 1 else 0) + cnt r
def verAt : Nat → Heap → List Tr → Heap
  | 0, H, _ => H
  | _ + 1, H, [] => H
  | k + 1, H, s :: r => if s.kd.isChain then verAt k s.H' r else verAt (k + 1) H r
def after : Nat → List Tr → List Tr
  | 0, t => t
  | _ + 1, [] => []
  | k + 1, s :: r => if s.kd.isChain then after k r else after (k + 1) r

theorem vers_get : ∀ (t : List Tr) (H : Heap) (k : Nat), k ≤ cnt t → (H :: chainHs t)[k]? = some (verAt k H t)
  | t, H, 0, _ => by simp [verAt]
  | [], H, k + 1, h => by simp [cnt] at h
  | s :: r, H, k + 1, h => by
    simp only [cnt] at h
    simp only [chainHs, verAt]
    cases hc : s.kd.isChain with
    | true => simp only [hc, if_true] at h ⊢; simpa using vers_get r s.H' k (by omega)
    | false => simp only [hc] at h ⊢; simpa using vers_get r H (k + 1) (by simpa using h)

theorem cnt_append (X Y : List Tr) : cnt (X ++ Y) = cnt X + cnt Y := by
  induction X with
  | nil => simp [cnt]
  | cons s X ih => simp [cnt, ih]; omega

theorem verAt_append : ∀ (X : List Tr) (k : Nat) (H : Heap) (Y : List Tr), verAt (cnt X + (k + 1)) H (X ++ Y) = verAt (k + 1) (verAt (cnt X) H X) Y
  | [], k, H, Y => by simp [cnt, verAt]
  | s :: X, k, H, Y => by
    simp only [cnt, List.cons_append]
    cases hc : s.kd.isChain with
    | true =>
      simp only [if_true]
      rw [show 1 + cnt X + (k + 1) = (cnt X + (k + 1)) + 1 by omega, show 1 + cnt X = cnt X + 1 by omega]
      simp only [verAt, hc, if_true]
      exact verAt_append X k s.H' Y
    | false =>
      simp only [Bool.false_eq_true, if_false, Nat.zero_add]
      rw [show cnt X + (k + 1) = (cnt X + k) + 1 by omega]
      have h1 : verAt (cnt X + k + 1) H (s :: (X ++ Y)) = verAt (cnt X + k + 1) H (X ++ Y) := by simp [verAt, hc]
      have h2 : verAt (cnt X) H (s :: X) = verAt (cnt X) H X := by
        cases hx : cnt X with
        | zero => simp [verAt]
        | succ m => simp [verAt, hc]
      rw [h1, h2]
      exact verAt_append X k H Y

theorem after_append : ∀ (X : List Tr) (k : Nat) (Y : List Tr), after (cnt X + (k + 1)) (X ++ Y) = after (k + 1) Y
  | [], k, Y => by simp [cnt]
  | s :: X, k, Y => by
    simp only [cnt, List.cons_append]
    cases hc : s.kd.isChain with
    | true =>
      simp only [if_true]
      rw [show 1 + cnt X + (k + 1) = (cnt X + (k + 1)) + 1 by omega]
      simp only [after, hc, if_true]
      exact after_append X k Y
    | false =>
      simp only [Bool.false_eq_true, if_false, Nat.zero_add]
      rw [show cnt X + (k + 1) = (cnt X + k) + 1 by omega]
      simp only [after, hc, Bool.false_eq_true, if_false]
      exact after_append X k Y

/-- a reading was made in the version of its own -/
theorem own_version : ∀ {perm : List Nat} {e ef : Env} {Hs Hf : Heap} {tr : List Tr}, Run P σ n ops fl base perm e Hs tr ef Hf → ∀ (fresh : Bool) (V0 : Heap), okRead P ops fl fresh perm = true → (fresh = true → Hs = V0) →
    ∀ (X : List Tr) (s : Tr) (Y : List Tr), tr = X ++ s :: Y → s.kd.isRead = true → s.H = verAt (cnt X) V0 tr := by
  intro perm e ef Hs Hf tr h
  induction h with
  | nil => intro _ _ _ _ X s Y he; cases X <;> simp at he
  | @cons i rest e H o v H' tr ef Hf h1 h2 h3 h4 ih =>
    intro fresh V0 hok hf X s Y he hs
    simp only [okRead, h1] at hok
    cases X with
    | nil =>
      simp only [List.nil_append, List.cons.injEq] at he
      obtain ⟨rfl, rfl⟩ := he
      simp only at hs
      cases hk : kindD P fl i o <;> rw [hk] at hs hok <;> simp only [KD.isRead] at hs <;> first | (cases hs; done) | skip
      simp only [Bool.and_eq_true] at hok
      simp only [cnt, verAt]
      exact hf hok.1
    | cons x X =>
      simp only [List.cons_append, List.cons.injEq] at he
      obtain ⟨rfl, rfl⟩ := he
      cases hk : kindD P fl i o <;> rw [hk] at hok h2 <;> simp only at hok
      · -- quiet
        have hcl : cls P o.op = .mv ∨ cls P o.op = .pure := by
          unfold kindD at hk; split at hk
          · cases hk
          · split at hk <;> first | (left; assumption) | (right; assumption) | cases hk
        obtain ⟨rfl, _⟩ := quiet_any hcl h2
        have := ih fresh V0 hok hf X s Y rfl hs
        rw [this]
        simp only [cnt, KD.isChain, Bool.false_eq_true, if_false, Nat.zero_add]
        cases cnt X with
        | zero => simp [verAt]
        | succ m => simp [verAt, KD.isChain]
      · -- read
        have hcl : cls P o.op = .read := by
          unfold kindD at hk; split at hk
          · cases hk
          · split at hk <;> first | assumption | cases hk
        have := read_any hcl h2; subst this
        simp only [Bool.and_eq_true] at hok
        have := ih fresh V0 hok.2 hf X s Y rfl hs
        rw [this]
        simp only [cnt, KD.isChain, Bool.false_eq_true, if_false, Nat.zero_add]
        cases cnt X with
        | zero => simp [verAt]
        | succ m => simp [verAt, KD.isChain]
      · -- chain
        have := ih true H' hok (fun _ => rfl) X s Y rfl hs
        rw [this]
        simp only [cnt, KD.isChain, if_true]
        rw [show 1 + cnt X = cnt X + 1 by omega]
        simp [verAt, KD.isChain]
      · -- float
        have := ih false V0 hok (fun q => by cases q) X s Y rfl hs
        rw [this]
        simp only [cnt, KD.isChain, Bool.false_eq_true, if_false, Nat.zero_add]
        cases cnt X with
        | zero => simp [verAt]
        | succ m => simp [verAt, KD.isChain]

theorem vEq1_eq {a b : V} (h : vEq.vEq1 a b = true) : a = b := by
  cases a <;> cases b <;> simp_all [vEq.vEq1]
theorem vEqs_eq : ∀ {a b : List V}, vEq.vEqs a b = true → a = b
  | [], [], _ => rfl
  | [], _ :: _, h => by simp [vEq.vEqs] at h
  | _ :: _, [], h => by simp [vEq.vEqs] at h
  | x :: xs, y :: ys, h => by
    simp only [vEq.vEqs, Bool.and_eq_true] at h
    rw [vEq1_eq h.1, vEqs_eq h.2]
theorem vEq_eq {a b : V} (h : vEq a b = true) : a = b := by
  cases a <;> cases b <;> simp only [vEq] at h <;> first | (cases h; done) | skip
  case chan.chan a b => cases a <;> cases b <;> simp_all
  case agg.agg a b => have := vEqs_eq h; rw [Array.toList_inj.mp this]
  case tuple.tuple a b => have := vEqs_eq h; rw [Array.toList_inj.mp this]
  all_goals simp_all

theorem chk_spec {m : M V} {H : Heap} {v : V} (h : chk m H v = true) : ∃ H', m H = some (v, H') := by
  unfold chk at h
  split at h
  · rename_i v' H' hm; rw [hm, vEq_eq h]; exact ⟨H', rfl⟩
  · cases h

theorem chkVers_spec {R : Type} {bf : Array Nat} {chain : List Nat} {s : Tr} {own : Nat} {m : M R} {r : R} {Ha Hb : Heap} : ∀ (l : List Heap) (k : Nat), chkVers P σ ops bf chain s own k l m Ha = some (r, Hb) →
    m Ha = some (r, Hb) ∧ ∀ j HH, l[j]? = some HH → k + j ≠ own → compat bf chain s.i (k + j) = true → chk (gdM P σ ops s.o s.env) HH s.v = true
  | [], k, h => ⟨h, fun j HH hj => by simp at hj⟩
  | H0 :: l, k, h => by
    simp only [chkVers] at h
    have key : (chkVers P σ ops bf chain s own (k + 1) l m Ha = some (r, Hb)) → (k ≠ own → compat bf chain s.i k = true → chk (gdM P σ ops s.o s.env) H0 s.v = true) →
        m Ha = some (r, Hb) ∧ ∀ j HH, (H0 :: l)[j]? = some HH → k + j ≠ own → compat bf chain s.i (k + j) = true → chk (gdM P σ ops s.o s.env) HH s.v = true := by
      intro h1 h2
      obtain ⟨g1, g2⟩ := chkVers_spec l (k + 1) h1
      refine ⟨g1, fun j HH hj => ?_⟩
      cases j with
      | zero => simp at hj; subst hj; exact h2
      | succ j => intro a b; exact g2 j HH (by simpa using hj) (by omega) (by rw [show k + 1 + j = k + (j + 1) by omega]; exact b)
    cases hc : (!Nat.beq k own && compat bf chain s.i k) with
    | true =>
      rw [hc] at h
      simp only [cond_true, need] at h
      split at h
      · rename_i hck; exact key h fun _ _ => hck
      · cases h
    | false =>
      rw [hc] at h
      refine key h fun a b => ?_
      rw [b, beq_f a] at hc
      simp at hc

theorem chkAll_spec {R : Type} {bf : Array Nat} {chain : List Nat} {vers : List Heap} {m : M R} {r : R} {Ha Hb : Heap} : ∀ (tr : List Tr) (own : Nat), chkAll P σ ops bf chain vers own tr m Ha = some (r, Hb) →
    m Ha = some (r, Hb) ∧ ∀ X s Y, tr = X ++ s :: Y → s.kd.isRead = true → ∀ k HH, vers[k]? = some HH → k ≠ own + cnt X → compat bf chain s.i k = true → chk (gdM P σ ops s.o s.env) HH s.v = true
  | [], own, h => ⟨h, fun X s Y he => by cases X <;> simp at he⟩
  | s0 :: tr, own, h => by
    simp only [chkAll] at h
    cases hc : s0.kd.isChain with
    | true =>
      rw [hc] at h
      obtain ⟨g1, g2⟩ := chkAll_spec tr (own + 1) h
      refine ⟨g1, fun X s Y he hs k HH hk hne hco => ?_⟩
      cases X with
      | nil => simp at he; obtain ⟨rfl, rfl⟩ := he; cases hkd : s0.kd <;> rw [hkd] at hs hc <;> simp [KD.isChain, KD.isRead] at hs hc
      | cons x X =>
        simp only [List.cons_append, List.cons.injEq] at he
        obtain ⟨rfl, rfl⟩ := he
        exact g2 X s Y rfl hs k HH hk (by simp only [cnt, hc, if_true] at hne; omega) hco
    | false =>
      rw [hc] at h
      simp only [cond_false] at h
      cases hr : s0.kd.isRead with
      | true =>
        rw [hr] at h
        simp only [cond_true] at h
        obtain ⟨h1, h2⟩ := chkVers_spec vers 0 h
        obtain ⟨g1, g2⟩ := chkAll_spec tr own h1
        refine ⟨g1, fun X s Y he hs k HH hk hne hco => ?_⟩
        cases X with
        | nil =>
          simp at he; obtain ⟨rfl, rfl⟩ := he
          exact h2 k HH hk (by simpa [cnt] using hne) (by simpa using hco)
        | cons x X =>
          simp only [List.cons_append, List.cons.injEq] at he
          obtain ⟨rfl, rfl⟩ := he
          exact g2 X s Y rfl hs k HH hk (by simpa [cnt, hc] using hne) hco
      | false =>
        rw [hr] at h
        obtain ⟨g1, g2⟩ := chkAll_spec tr own h
        refine ⟨g1, fun X s Y he hs k HH hk hne hco => ?_⟩
        cases X with
        | nil => simp at he; obtain ⟨rfl, rfl⟩ := he; rw [hs] at hr; cases hr
        | cons x X =>
          simp only [List.cons_append, List.cons.injEq] at he
          obtain ⟨rfl, rfl⟩ := he
          exact g2 X s Y rfl hs k HH hk (by simpa [cnt, hc] using hne) hco

end Go.AM
