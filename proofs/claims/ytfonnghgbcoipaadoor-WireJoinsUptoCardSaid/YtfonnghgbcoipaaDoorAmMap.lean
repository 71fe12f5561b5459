/- Maps that are walked in an order that nobody knows: what is needed of heaps, worlds and lists. -/
import Derived.Test.YtfonnghgbcoipaaDoorAmFun
import Derived.Maps.RangeRun
set_option linter.all false
namespace Go.AM
open Go.RowKit (Below)
open Go.ChangeMaps (setBlock)

variable {P : Program} {N : Nat} {w₀ : World} {ρ : Ren} {H : Heap} {w : World} {σ : Calls'} {n : Nat}

/-! ### heaps of which what is new is forgotten -/
def Heap.cut (n : Nat) (H : Heap) : Heap := ⟨(List.range H.next).map fun b => if b < n then H.get b else none⟩
theorem Heap.cut_next (n : Nat) (H : Heap) : (H.cut n).next = H.next := by simp [Heap.cut, Heap.next]
theorem Heap.cut_get (n : Nat) (H : Heap) (b : Nat) : (H.cut n).get b = if b < n then H.get b else none := by
  have key : ∀ x : Option Blk, (match (some x : Option (Option Blk)) with | some (some x) => some x | _ => none) = x := fun x => by cases x <;> rfl
  by_cases h : b < H.next
  · have e : (H.cut n).blk[b]? = some (if b < n then H.get b else none) := by simp [Heap.cut, h]
    show (match (H.cut n).blk[b]? with | some (some x) => some x | _ => none) = _
    rw [e]
    exact key _
  · have e : (H.cut n).blk[b]? = none := List.getElem?_eq_none (by simp [Heap.cut]; omega)
    have e2 : H.get b = none := by
      show (match H.blk[b]? with | some (some x) => some x | _ => none) = none
      rw [List.getElem?_eq_none (by simpa [Heap.next] using h)]
    show (match (H.cut n).blk[b]? with | some (some x) => some x | _ => none) = _
    rw [e, e2]; simp
theorem Heap.cut_some {n : Nat} {H : Heap} {b : Nat} {x : Blk} (h : (H.cut n).get b = some x) : H.get b = some x ∧ b < n := by
  rw [Heap.cut_get] at h
  split at h
  · exact ⟨h, by assumption⟩
  · cases h
theorem Rel.cut (h : Rel N w₀ ρ H w) (n : Nat) : Rel N w₀ ρ (H.cut n) w :=
  ⟨h.below, h.big, fun b hb => h.dom b (by rwa [Heap.cut_next] at hb), h.base, fun b x hx => h.blk b x (Heap.cut_some hx).1, fun b b' x x' L L' hx hx' => h.inj b b' x x' L L' (Heap.cut_some hx).1 (Heap.cut_some hx').1⟩
theorem Ext.cut {ρ' : Ren} {H' : Heap} {w' : World} (h : Ext ρ H w ρ' H' w') (n : Nat) : Ext ρ H w ρ' (H'.cut n) w' :=
  ⟨h.le, h.same, by rw [Heap.cut_next]; exact h.next, h.apart, fun b x L hb => h.old b x L (Heap.cut_some hb).1⟩

/-! ### worlds that turn where no abstract block lies -/
theorem Rel.other (h : Rel N w₀ ρ H w) {c : Nat} (hc : N ≤ c) (hfree : ∀ b x M, H.get b = some x → ρ b = some M → M.blk ≠ c) (w' : World) (hos : w'.os = w.os) (htape : w'.tape = w.tape) (hout : w'.output = w.output)
    (hsz : w'.heap.size = w.heap.size) (hold : ∀ k, k ≠ c → w'.heap[k]? = w.heap[k]?) : Rel N w₀ ρ H w' :=
  ⟨h.below.trans ⟨hos, htape, hout, by omega, fun k hk => hold k (by omega)⟩, by rw [hsz]; exact h.big, h.dom, h.base, fun b x hx => by
    obtain ⟨L, hL, hr⟩ := h.blk b x hx
    exact ⟨L, hL, hr.mono (Ren.le.refl _) (hold _ (hfree b x L hx hL))⟩, h.inj⟩
theorem setBlock_at {b : Nat} {o : Obj} (hb : b < w.heap.size) : (setBlock w b o).heap[b]? = some o := by simp [setBlock, Array.getElem?_setIfInBounds, hb]
theorem setBlock_ne {b k : Nat} {o : Obj} (hk : k ≠ b) : (setBlock w b o).heap[k]? = w.heap[k]? := by
  show (w.heap.setIfInBounds b o)[k]? = _
  exact Array.getElem?_setIfInBounds_ne (fun e => hk e.symm)
theorem setBlock_size {b : Nat} {o : Obj} : (setBlock w b o).heap.size = w.heap.size := by simp [setBlock]
theorem Rel.setBlock (h : Rel N w₀ ρ H w) {c : Nat} (hc : N ≤ c) (hfree : ∀ b x M, H.get b = some x → ρ b = some M → M.blk ≠ c) (o : Obj) : Rel N w₀ ρ H (setBlock w c o) :=
  h.other hc hfree _ rfl rfl rfl setBlock_size fun _ hk => setBlock_ne hk
theorem ext_setBlock {ρ' : Ren} {H' : Heap} {w' : World} (h : Ext ρ H w ρ' H' w') {c : Nat} (hc : w.heap.size ≤ c ∨ ∃ b x L, H.get b = some x ∧ ρ b = some L ∧ L.blk = c) (o : Obj) : Ext ρ H w ρ' H' (setBlock w' c o) :=
  ⟨h.le, h.same, h.next, ⟨by rw [setBlock_size]; exact h.apart.1, fun k hk hn => by
    rw [setBlock_ne, h.apart.2 k hk hn]
    rintro rfl
    rcases hc with q | ⟨b, x, L, h1, h2, h3⟩
    · omega
    · exact hn b x L h1 h2 h3⟩, h.old⟩
theorem Ext.drew {ρ' : Ren} {H' : Heap} {w' : World} (h : Ext ρ H w ρ' H' w') (k : Nat) : Ext ρ H w ρ' H' { w' with drawn := k } := ⟨h.le, h.same, h.next, h.apart, h.old⟩
/-- a block that is seen again -/
theorem Rel.revive (h : Rel N w₀ ρ H w) {b : Nat} {x : Blk} {L : Loc} (hb : b < H.next) (hL : ρ b = some L) (hx : BRel N ρ w L x) (hfree : ∀ c y M, H.get c = some y → ρ c = some M → M.blk ≠ L.blk) : Rel N w₀ ρ (H.set b (some x)) w := by
  refine ⟨h.below, h.big, fun c hc => h.dom c (by rwa [Heap.next_set] at hc), h.base, fun c y hy => ?_, fun c c' y y' M M' hy hy' hne hM hM' => ?_⟩
  · rw [Heap.get_set H b _ c hb] at hy
    split at hy
    · rename_i e; cases hy; subst e; exact ⟨L, hL, hx⟩
    · exact h.blk c y hy
  · rw [Heap.get_set H b _ _ hb] at hy hy'
    split at hy
    · rename_i e; subst e
      rw [hL] at hM; cases hM
      split at hy'
      · rename_i e'; exact absurd e'.symm hne
      · exact fun q => hfree c' y' M' hy' hM' q.symm
    · split at hy'
      · rename_i e'; subst e'
        rw [hL] at hM'; cases hM'
        exact hfree c y M hy hM
      · exact h.inj c c' y y' M M' hy hy' hne hM hM'
/-- a dead block: what the model alone holds -/
theorem Rel.dead (h : Rel N w₀ ρ H w) (o : Obj) : Rel N w₀ (ρ.add H.next ⟨w.heap.size, 0, 0⟩) (H.push none) (w.alloc o) := by
  have hno : ρ H.next = none := h.dom _ (Nat.le_refl _)
  have hle := Ren.le_add ⟨w.heap.size, 0, 0⟩ hno
  have hold : ∀ k, k < w.heap.size → (w.alloc o).heap[k]? = w.heap[k]? := fun k hk => by
    show (w.heap.push o)[k]? = _
    rw [Array.getElem?_push, if_neg (by omega)]
  have hold2 : ∀ b x, (H.push none).get b = some x → H.get b = some x ∧ b ≠ H.next := fun b x hx => by
    rw [Heap.get_push] at hx
    split at hx
    · cases hx
    · exact ⟨hx, by assumption⟩
  refine ⟨h.below.trans ⟨rfl, rfl, rfl, by show w.heap.size ≤ (w.heap.push o).size; simp, fun k hk => hold k (Nat.lt_of_lt_of_le hk h.big)⟩, ?_, fun b hb => ?_, fun b hb => by obtain ⟨s, hs⟩ := h.base b hb; exact ⟨s, hle _ _ hs⟩, fun b x hx => ?_, fun b b' x x' L L' hx hx' hne hL hL' => ?_⟩
  · show N ≤ (w.heap.push o).size
    have := h.big; simp; omega
  · rw [Heap.next_push] at hb
    unfold Ren.add; rw [if_neg (by omega)]; exact h.dom b (by omega)
  · obtain ⟨h1, h2⟩ := hold2 b x hx
    obtain ⟨L, hL, hr⟩ := h.blk b x h1
    exact ⟨L, hle _ _ hL, hr.mono hle (hold _ (h.lt h1 hL))⟩
  · obtain ⟨h1, h2⟩ := hold2 b x hx
    obtain ⟨h1', h2'⟩ := hold2 b' x' hx'
    unfold Ren.add at hL hL'
    rw [if_neg h2] at hL; rw [if_neg h2'] at hL'
    exact h.inj b b' x x' L L' h1 h1' hne hL hL'
theorem ext_dead (h : Rel N w₀ ρ H w) (o : Obj) : Ext ρ H w (ρ.add H.next ⟨w.heap.size, 0, 0⟩) (H.push none) (w.alloc o) := by
  have hno : ρ H.next = none := h.dom _ (Nat.le_refl _)
  refine ⟨Ren.le_add _ hno, fun b hb => by unfold Ren.add; rw [if_neg (by omega)], by rw [Heap.next_push]; omega, ⟨by show w.heap.size ≤ (w.heap.push o).size; simp, fun c hc _ => ?_⟩, fun b x L hb hL => ?_⟩
  · show (w.heap.push o)[c]? = _
    rw [Array.getElem?_push, if_neg (by omega)]
  · rw [Heap.get_push] at hb
    split at hb
    · cases hb
    · unfold Ren.add at hL
      rw [if_neg (by assumption)] at hL
      exact .inr ⟨b, x, L, hb, hL, rfl⟩

/-! ### keys -/
def keysApart (kk : KK) (es : List (V × V)) : Prop := ∀ i j, i < es.length → j < es.length → keyEq kk (es.getD i default).1 (es.getD j default).1 = some (decide (i = j))

theorem find_erase {kk : KK} {es : List (V × V)} (ha : keysApart kk es) {i : Nat} (hi : i < es.length) : ∀ (l : List Nat), l.Nodup → (∀ j ∈ l, j < es.length) → i ∈ l →
    ∃ p, findK kk (es.getD i default).1 (l.map fun j => es.getD j default) = some (some p) ∧ p < l.length ∧ l.eraseIdx p = l.filter fun j => !(j == i)
  | [], _, _, h => by cases h
  | x :: l, hn, hlt, hm => by
    have hx := ha i x hi (hlt x (by simp))
    simp only [List.map_cons, findK]
    rw [hx]
    by_cases e : i = x
    · subst e
      simp only [decide_true]
      refine ⟨0, rfl, by simp, ?_⟩
      rw [List.eraseIdx_zero, List.tail_cons, List.filter_cons, if_neg (by simp)]
      refine (List.filter_eq_self.2 fun j hj => ?_).symm
      have : j ≠ i := fun e => by subst e; exact (List.nodup_cons.1 hn).1 hj
      simpa using this
    · simp only [e, decide_false]
      have hm' : i ∈ l := by
        rcases List.mem_cons.1 hm with q | q
        · exact absurd q e
        · exact q
      obtain ⟨p, h1, h2, h3⟩ := find_erase ha hi l (List.nodup_cons.1 hn).2 (fun j hj => hlt j (by simp [hj])) hm'
      rw [h1]
      refine ⟨p + 1, rfl, by simpa using h2, ?_⟩
      rw [List.eraseIdx_cons_succ, h3, List.filter_cons, if_pos (by simpa using fun q => e q.symm)]

/-- a key is struck -/
theorem del_run {kk : KK} {k k' : V} {t u ty kt et : TypeId} (hu : P.underlying t = some (.map kt et)) (hf : keyT P kt = some kk) {es : List (V × V)} {E : Array MapEntry} {clk mb : Nat} (h1 : w.heap[mb]? = some (.map E clk))
    (h2 : LRel ρ (es.map (·.1)) (E.toList.map (·.key))) (hfit : keyFits kk k = true) (hk : VRel ρ k k') {i : Nat} (hi : findK kk k es = some (some i)) :
    (Builtin.delete_ #[t, u] ty #[.map (some mb), k']).run P w = .ok (.tuple #[]) (setBlock w mb (.map (E.eraseIdxIfInBounds i) clk)) := by
  have hck := fun em => checkKey_of hf hk hfit em w
  have hfk := findKey_of hf hk es E.toList (some i) h2 hi w
  have hlt2 := findK_lt kk k es i hi
  have hlE : i < E.size := by have := h2.length; simp at this; omega
  have hbind : (some i).bind (fun j => (E.toList[j]?).map fun e => (j, e.val)) = some (i, E[i].val) := by simp [hlE]
  rw [hbind] at hfk
  simp [Builtin.delete_, run_underlying hu, run_getObj_map h1, hck, hfk, run_setObj_map h1, setBlock]

/-! ### steps of a region -/
theorem hand_val {ops : Array Oper} {Q : Exit → Act → World → Prop} {rest : List Oper} {a : Act} {o : Oper} {d : Option Nat} {v : V} {w' : World} (hg : o.guard = none) (hd : o.dst = d) (hrun : (execOp a.eval o).run P w = .ok (.value v) w') (h : wpList P ops Q rest (a.put d v) w') : wpList P ops Q (o :: rest) a w := by
  subst hd
  unfold wpList
  rw [if_pos (by simp [Region.wanted, hg])]
  left
  unfold Oper.wp
  rw [hrun]; exact h
theorem step_op {ops : Array Oper} {Q : Exit → Act → World → Prop} {rest : List Oper} {a : Act} {en : Env} {o : Oper} {r1 : V} {H1 : Heap} (hσ : SimAll P σ) (hG : P.globals.size ≤ N) (h : Rel N w₀ ρ H w) (he : EnvRel n ρ en a) (hgd : gdM P σ ops o en H = some (r1, H1))
    (hk : ∀ r' w', Goes N w₀ ρ H w r1 H1 r' w' → wpList P ops Q rest (a.put o.dst r') w') : wpList P ops Q (o :: rest) a w := by
  unfold wpList
  have := gd_step (Q := Q) hσ hG h he hgd hk
  split
  · rename_i hw; rw [if_pos hw] at this; exact .inl this
  · rename_i hw; rw [if_neg hw] at this; exact this
theorem runOps_slots {ops : Array Oper} : ∀ (l : List Oper) (en en' : Env) (H H' : Heap), runOps P σ n ops l en ret H = some (en', H') → ∀ t, (∀ o ∈ l, o.dst ≠ some t) → en' t = en t
  | [], en, en', H, H', h, t, _ => by simp only [runOps, ret] at h; cases h; rfl
  | o :: l, en, en', H, H', h, t, ht => by
    have hput : ∀ v : V, (en.put n o.dst v) t = en t := fun v => by
      have := ht o (by simp)
      unfold Env.put
      cases hd : o.dst with
      | none => rfl
      | some d =>
        rw [hd] at this
        have hne : ¬ t = d := fun e => this (by rw [e])
        simp only
        cases Nat.blt d n
        · rfl
        · simp [beq_f hne]
    simp only [runOps] at h
    cases hm : plainMv o with
    | some x =>
      rw [hm] at h
      rw [runOps_slots l _ _ _ _ h t (fun o ho => ht o (by simp [ho]))]; exact hput _
    | none =>
      rw [hm] at h
      obtain ⟨v, H1, _, h2⟩ := bnd_inv h
      rw [runOps_slots l _ _ _ _ h2 t (fun o ho => ht o (by simp [ho]))]; exact hput _
theorem EnvRel.weak {en en2 : Env} {a : Act} (h : EnvRel n ρ en a) (hw : ∀ t, en2 t = en t ∨ en2 t = undef) : EnvRel n ρ en2 a :=
  ⟨h.size, fun t => by rcases hw t with q | q <;> rw [q]; exact h.slot t; exact .undef _⟩
theorem lrel_at {l l' : List V} (hl : l.length = l'.length) (h : ∀ i, i < l.length → VRel ρ (l.getD i default) (l'.getD i default)) : LRel ρ l l' :=
  LRel.of_get hl fun i h1 h2 => by
    have := h i h1
    rw [List.getD_eq_getElem?_getD, List.getD_eq_getElem?_getD, List.getElem?_eq_getElem h1, List.getElem?_eq_getElem h2] at this
    exact this
end Go.AM
