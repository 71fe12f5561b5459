import Derived.Test.YtbnjeldcndpdoaaAmReg3
set_option linter.all false
/- Regions whose order is drawn: blocks that are laid early, orders, slots. -/
namespace Go.AM
open Go.RowKit (Below)

variable {P : Program} {N : Nat} {w₀ : World} {ρ : Ren} {H : Heap} {w : World} {σ : Calls'} {n : Nat} {ops : Array Oper} {fl : List Nat} {base : Nat}

theorem Heap.get_set_ne (H : Heap) (b : Nat) (x : Option Blk) {c : Nat} (h : c ≠ b) : (H.set b x).get c = H.get c := by
  show (H.tree.set b x).get c = _
  rw [BT.get_set b x c H.ok, if_neg (fun q => h q.1)]
  rfl

/-- the floats of a list that are laid -/
def setFl (M : Nat → Bool) (base : Nat) : List Tr → Heap → Heap
  | [], G => G
  | s :: B, G => match s.kd with
    | .float j => if M s.i then setFl M base B (G.set (base + j) (s.H'.get (base + j))) else setFl M base B G
    | _ => setFl M base B G

theorem setFl_next (M : Nat → Bool) : ∀ (B : List Tr) (G : Heap), (setFl M base B G).next = G.next
  | [], G => rfl
  | s :: B, G => by
    unfold setFl
    cases s.kd <;> simp only <;> try exact setFl_next M B G
    split
    · rw [setFl_next M B, Heap.next_set]
    · exact setFl_next M B G

theorem setFl_append (M : Nat → Bool) : ∀ (A B : List Tr) (G : Heap), setFl M base (A ++ B) G = setFl M base B (setFl M base A G)
  | [], B, G => rfl
  | s :: A, B, G => by
    simp only [List.cons_append, setFl]
    cases s.kd <;> simp only <;> try exact setFl_append M A B G
    split <;> exact setFl_append M A B _

theorem setFl_other (M : Nat → Bool) {b : Nat} : ∀ (B : List Tr) (G : Heap), (∀ s ∈ B, ∀ j, s.kd = .float j → M s.i = true → base + j ≠ b) → (setFl M base B G).get b = G.get b
  | [], G, _ => rfl
  | s :: B, G, h => by
    unfold setFl
    have hB := fun G => setFl_other M B G fun s hs => h s (by simp [hs])
    cases hk : s.kd <;> simp only <;> try exact hB G
    rename_i j
    split
    · rename_i hm
      rw [hB, Heap.get_set_ne]
      exact fun e => h s (by simp) j hk hm e.symm
    · exact hB G

theorem setFl_congr (M M' : Nat → Bool) : ∀ (B : List Tr) (G : Heap), (∀ s ∈ B, ∀ j, s.kd = .float j → M s.i = M' s.i) → setFl M base B G = setFl M' base B G
  | [], G, _ => rfl
  | s :: B, G, h => by
    unfold setFl
    have hB := fun G => setFl_congr M M' B G fun s hs => h s (by simp [hs])
    cases hk : s.kd <;> simp only <;> try exact hB G
    rename_i j
    rw [h s (by simp) j hk]
    split <;> exact hB _

/-- two heaps under the same floats: either the float's block, or their own -/
theorem setFl_both (M : Nat → Bool) : ∀ (B : List Tr) (G G' : Heap), (∀ s ∈ B, ∀ j, s.kd = .float j → base + j < G.next ∧ base + j < G'.next) → ∀ b,
    ((∃ s ∈ B, ∃ j, s.kd = .float j ∧ M s.i = true ∧ base + j = b) ∧ (setFl M base B G).get b = (setFl M base B G').get b) ∨ ((setFl M base B G).get b = G.get b ∧ (setFl M base B G').get b = G'.get b)
  | [], G, G', _, b => .inr ⟨rfl, rfl⟩
  | s :: B, G, G', h, b => by
    unfold setFl
    have hB := fun (G G' : Heap) (e : G.next = G.next) h' => setFl_both M B G G' h' b
    have hrest : ∀ (G1 G1' : Heap), G1.next = G.next → G1'.next = G'.next → ∀ s ∈ B, ∀ j, s.kd = .float j → base + j < G1.next ∧ base + j < G1'.next := by
      intro G1 G1' e1 e2 s hs j hj
      rw [e1, e2]; exact h s (by simp [hs]) j hj
    have lift : (((∃ s ∈ B, ∃ j, s.kd = .float j ∧ M s.i = true ∧ base + j = b) ∧ (setFl M base B G).get b = (setFl M base B G').get b) ∨ ((setFl M base B G).get b = G.get b ∧ (setFl M base B G').get b = G'.get b)) →
        (((∃ s' ∈ s :: B, ∃ j, s'.kd = .float j ∧ M s'.i = true ∧ base + j = b) ∧ (setFl M base B G).get b = (setFl M base B G').get b) ∨ ((setFl M base B G).get b = G.get b ∧ (setFl M base B G').get b = G'.get b)) := by
      rintro (⟨⟨s', hs', r⟩, q⟩ | q)
      · exact .inl ⟨⟨s', by simp [hs'], r⟩, q⟩
      · exact .inr q
    cases hk : s.kd <;> simp only <;> try exact lift (setFl_both M B G G' (hrest G G' rfl rfl) b)
    rename_i j
    split
    · rename_i hm
      have hlt := h s (by simp) j hk
      rcases setFl_both M B (G.set (base + j) (s.H'.get (base + j))) (G'.set (base + j) (s.H'.get (base + j))) (hrest _ _ (Heap.next_set _ _ _) (Heap.next_set _ _ _)) b with ⟨⟨s', hs', r⟩, q⟩ | ⟨q1, q2⟩
      · exact .inl ⟨⟨s', by simp [hs'], r⟩, q⟩
      · by_cases hb : b = base + j
        · subst hb
          refine .inl ⟨⟨s, by simp, j, hk, hm, rfl⟩, ?_⟩
          rw [q1, q2, Heap.get_set _ _ _ _ hlt.1, Heap.get_set _ _ _ _ hlt.2]; simp
        · rw [Heap.get_set_ne _ _ _ hb] at q1
          rw [Heap.get_set_ne _ _ _ hb] at q2
          exact .inr ⟨q1, q2⟩
    · exact lift (setFl_both M B G G' (hrest G G' rfl rfl) b)

theorem Rel.congr {H' : Heap} (h : Rel N w₀ ρ H w) (hn : H'.next = H.next) (hg : ∀ b, H'.get b = H.get b) : Rel N w₀ ρ H' w :=
  ⟨h.below, h.big, fun b hb => h.dom b (by omega), h.base, fun b x hb => h.blk b x (by rw [← hg]; exact hb), fun b b' x x' L L' hb hb' => h.inj b b' x x' L L' (by rw [← hg]; exact hb) (by rw [← hg]; exact hb')⟩

theorem Rel.shrink {H' : Heap} (h : Rel N w₀ ρ H w) (hn : H'.next = H.next) (hg : ∀ b x, H'.get b = some x → H.get b = some x) : Rel N w₀ ρ H' w :=
  ⟨h.below, h.big, fun b hb => h.dom b (by omega), h.base, fun b x hb => h.blk b x (hg b x hb), fun b b' x x' L L' hb hb' => h.inj b b' x x' L L' (hg _ _ hb) (hg _ _ hb')⟩

theorem Ext.congr {ρ' : Ren} {K H' : Heap} {w' : World} (h : Ext ρ K w ρ' H w') (hn : H'.next = H.next) (hg : ∀ b, H'.get b = H.get b) : Ext ρ K w ρ' H' w' :=
  ⟨h.le, h.same, by rw [hn]; exact h.next, h.apart, fun b x L hb => h.old b x L (by rw [← hg]; exact hb)⟩

/-- the floats are there behind a step, too -/
theorem readd {M : Nat → Bool} {B : List Tr} {G G' : Heap} {ρ' : Ren} {w' : World} (hA : Rel N w₀ ρ (setFl M base B G) w) (hR : Rel N w₀ ρ' G' w') (hE : Ext ρ G w ρ' G' w')
    (hfree : ∀ s ∈ B, ∀ j, s.kd = .float j → G.get (base + j) = none ∧ base + j < G.next ∧ G'.get (base + j) = none) :
    Rel N w₀ ρ' (setFl M base B G') w' ∧ Ext ρ (setFl M base B G) w ρ' (setFl M base B G') w' := by
  have hboth := setFl_both M B G G' fun s hs j hj => ⟨(hfree s hs j hj).2.1, Nat.lt_of_lt_of_le (hfree s hs j hj).2.1 hE.next⟩
  have hn1 := setFl_next (base := base) M B G
  have hn2 := setFl_next (base := base) M B G'
  have hGA : ∀ b x, G.get b = some x → (setFl M base B G).get b = some x := by
    intro b x hb
    rcases hboth b with ⟨⟨s, hs, j, hj, _, rfl⟩, _⟩ | ⟨q, _⟩
    · rw [(hfree s hs j hj).1] at hb; cases hb
    · rw [q]; exact hb
  have hG'A : ∀ b x, G'.get b = some x → (setFl M base B G').get b = some x := by
    intro b x hb
    rcases hboth b with ⟨⟨s, hs, j, hj, _, rfl⟩, _⟩ | ⟨_, q⟩
    · rw [(hfree s hs j hj).2.2] at hb; cases hb
    · rw [q]; exact hb
  -- a block behind the step is a float's, as before, or one of G'
  have hkind : ∀ b x, (setFl M base B G').get b = some x → ((setFl M base B G).get b = some x ∧ G.get b = none ∧ b < G.next) ∨ G'.get b = some x := by
    intro b x hb
    rcases hboth b with ⟨⟨s, hs, j, hj, _, rfl⟩, q⟩ | ⟨_, q⟩
    · exact .inl ⟨by rw [q]; exact hb, (hfree s hs j hj).1, (hfree s hs j hj).2.1⟩
    · exact .inr (by rw [← q]; exact hb)
  -- a float's real block is none of G's
  have hfl : ∀ b x L, (setFl M base B G).get b = some x → G.get b = none → ρ b = some L → ∀ b0 x0 L0, G.get b0 = some x0 → ρ b0 = some L0 → L0.blk ≠ L.blk := by
    intro b x L hb hn hL b0 x0 L0 hb0 hL0
    exact hA.inj b0 b x0 x L0 L (hGA _ _ hb0) hb (fun e => by rw [e, hn] at hb0; cases hb0) hL0 hL
  refine ⟨⟨hR.below, hR.big, fun b hb => hR.dom b (by omega), hR.base, fun b x hb => ?_, fun b b' x x' L L' hb hb' hne hL hL' => ?_⟩, ⟨hE.le, fun b hb => hE.same b (by omega), by rw [hn1, hn2]; exact hE.next, ⟨hE.apart.1, fun c hc hn => hE.apart.2 c hc fun b x L hb hL => hn b x L (hGA _ _ hb) hL⟩, fun b x L hb hL => ?_⟩⟩
  · rcases hkind b x hb with ⟨h1, h2, h3⟩ | h1
    · obtain ⟨L, hL, hr⟩ := hA.blk b x h1
      refine ⟨L, by rw [hE.same b h3]; exact hL, hr.mono hE.le (hE.apart.2 _ (hA.lt h1 hL) fun b0 x0 L0 hb0 hL0 => hfl b x L h1 h2 hL b0 x0 L0 hb0 hL0)⟩
    · exact hR.blk b x h1
  · rcases hkind b x hb with ⟨h1, h2, h3⟩ | h1 <;> rcases hkind b' x' hb' with ⟨g1, g2, g3⟩ | g1
    · rw [hE.same b h3] at hL; rw [hE.same b' g3] at hL'
      exact hA.inj b b' x x' L L' h1 g1 hne hL hL'
    · rw [hE.same b h3] at hL
      rcases hE.old b' x' L' g1 hL' with q | ⟨b0, x0, L0, q1, q2, q3⟩
      · have := hA.lt h1 hL; omega
      · rw [← q3]; exact fun e => hfl b x L h1 h2 hL b0 x0 L0 q1 q2 e.symm
    · rw [hE.same b' g3] at hL'
      rcases hE.old b x L h1 hL with q | ⟨b0, x0, L0, q1, q2, q3⟩
      · have := hA.lt g1 hL'; omega
      · rw [← q3]; exact fun e => hfl b' x' L' g1 g2 hL' b0 x0 L0 q1 q2 e
    · exact hR.inj b b' x x' L L' h1 g1 hne hL hL'
  · rcases hkind b x hb with ⟨h1, h2, h3⟩ | h1
    · rw [hE.same b h3] at hL; exact .inr ⟨b, x, L, h1, hL, rfl⟩
    · rcases hE.old b x L h1 hL with q | ⟨b0, x0, L0, q1, q2, q3⟩
      · exact .inl q
      · exact .inr ⟨b0, x0, L0, hGA _ _ q1, q2, q3⟩

/-! ### what comes ahead of what -/

theorem inner_bits (Mp : Nat → Prop) (acc : Array Nat) (hacc : ∀ j, Mp j → ∀ i, (acc.getD j 0).testBit i = true → Mp i) : ∀ (es : List Edge) (s : Nat), (∀ i, s.testBit i = true → Mp i) → (∀ e ∈ es, Region.binds .any e = true → Mp e.on) →
    ∀ i, (es.foldl (fun s e => if Region.binds .any e then s ||| 2 ^ e.on ||| acc.getD e.on 0 else s) s).testBit i = true → Mp i
  | [], s, hs, _ => hs
  | e :: es, s, hs, he => by
    simp only [List.foldl_cons]
    refine inner_bits Mp acc hacc es _ (fun i hi => ?_) fun e' h' => he e' (by simp [h'])
    split at hi
    · rename_i hb
      have hon := he e (by simp) hb
      simp only [Nat.testBit_or, Bool.or_eq_true, Nat.testBit_two_pow, decide_eq_true_eq] at hi
      rcases hi with (hi | hi) | hi
      · exact hs i hi
      · subst hi; exact hon
      · exact hacc e.on hon i hi
    · exact hs i hi

theorem before_sound {Mp : Nat → Prop} (down : ∀ j, Mp j → ∃ o, ops[j]? = some o ∧ ∀ e ∈ o.after.toList, Region.binds .any e = true → Mp e.on) : ∀ j, Mp j → ∀ i, ancB (Region.before ops) j i = true → Mp i := by
  have key : ∀ (l : List Oper) (acc : Array Nat), (∀ j, l[j]? = ops[acc.size + j]?) → (∀ j, Mp j → ∀ i, (acc.getD j 0).testBit i = true → Mp i) →
      ∀ j, Mp j → ∀ i, ((l.foldl (fun (acc : Array Nat) (o : Oper) => acc.push (o.after.foldl (fun s e => if Region.binds .any e then s ||| 2 ^ e.on ||| acc.getD e.on 0 else s) 0)) acc).getD j 0).testBit i = true → Mp i := by
    intro l
    induction l with
    | nil => intro acc _ h; exact h
    | cons o l ih =>
      intro acc hl h
      simp only [List.foldl_cons]
      refine ih _ (fun j => ?_) fun j hj i hi => ?_
      · have := hl (j + 1)
        simp only [List.getElem?_cons_succ] at this
        rw [this, Array.size_push]; congr 1; omega
      · rw [Array.getD_eq_getD_getElem?, Array.getElem?_push] at hi
        split at hi
        · rename_i hjs
          simp only [Option.getD_some] at hi
          obtain ⟨o', ho', he⟩ := down j hj
          have h0 := hl 0
          simp only [List.getElem?_cons_zero, Nat.add_zero] at h0
          rw [hjs, ← h0] at ho'; cases ho'
          rw [← Array.foldl_toList] at hi
          exact inner_bits Mp acc h o.after.toList 0 (by simp) he i hi
        · rw [← Array.getD_eq_getD_getElem?] at hi
          exact h j hj i hi
  intro j hj i hi
  unfold ancB Region.before at hi
  rw [← Array.foldl_toList] at hi
  exact key ops.toList #[] (fun j => by simp) (by simp) j hj i hi

theorem okOrder_spec {bf : Array Nat} : ∀ (perm done : List Nat), okOrder P ops bf fl done perm = true → ∀ X j Y, perm = X ++ j :: Y →
    ∃ o, ops[j]? = some o ∧ j ∉ done ∧ j ∉ X ∧ (∀ e ∈ o.after.toList, Region.binds .any e = true → e.on ∈ done ∨ e.on ∈ X) ∧ (∀ i, i ∈ done ∨ i ∈ X → okPair P ops bf fl i j = true) ∧ (∀ cs b, o.op ≠ .select cs b)
  | [], done, h, X, j, Y, he => by cases X <;> simp at he
  | i :: rest, done, h, X, j, Y, he => by
    simp only [okOrder] at h
    cases ho : ops[i]? with
    | none => rw [ho] at h; cases h
    | some o =>
      rw [ho] at h
      simp only [Bool.and_eq_true, Bool.not_eq_true', List.all_eq_true, Bool.or_eq_true] at h
      obtain ⟨⟨⟨⟨h1, h2⟩, h3⟩, h4⟩, h5⟩ := h
      cases X with
      | nil =>
        simp only [List.nil_append, List.cons.injEq] at he
        obtain ⟨rfl, rfl⟩ := he
        refine ⟨o, ho, by simpa using h1, by simp, fun e he hb => ?_, fun i hi => ?_, fun cs b hs => ?_⟩
        · rcases h2 e he with q | q
          · rw [hb] at q; cases q
          · exact .inl (by simpa using q)
        · rcases hi with hi | hi
          · exact h4 i hi
          · simp at hi
        · rw [hs] at h3; cases h3
      | cons x X =>
        simp only [List.cons_append, List.cons.injEq] at he
        obtain ⟨rfl, rfl⟩ := he
        obtain ⟨o', g1, g2, g3, g4, g5, g6⟩ := okOrder_spec _ _ h5 X j Y rfl
        refine ⟨o', g1, fun q => g2 (by simp [q]), fun q => ?_, fun e he hb => ?_, fun i' hi => ?_, g6⟩
        · rcases List.mem_cons.1 q with q | q
          · exact g2 (by simp [q])
          · exact g3 q
        · rcases g4 e he hb with q | q
          · rcases List.mem_cons.1 q with q | q
            · exact .inr (by simp [q])
            · exact .inl q
          · exact .inr (by simp [q])
        · rcases hi with hi | hi
          · exact g5 i' (.inl (by simp [hi]))
          · rcases List.mem_cons.1 hi with hi | hi
            · exact g5 i' (.inl (by simp [hi]))
            · exact g5 i' (.inr hi)

/-! ### slots -/

def curEnv (n : Nat) (M : Nat → Bool) : List Tr → Env → Env
  | [], e => e
  | s :: r, e => curEnv n M r (if M s.i then e.put n s.o.dst s.v else e)

theorem put_other {e : Env} {d : Option Nat} {v : V} {t : Nat} (h : d ≠ some t) : e.put n d v t = e t := by
  cases d with
  | none => rfl
  | some d =>
    simp only [Env.put]
    cases hb : Nat.blt d n with
    | false => simp only [cond_false]
    | true =>
      have hq : Nat.beq t d = false := beq_f (fun q => h (by rw [q]))
      simp only [cond_true, hq, cond_false]

theorem put_same {e e' : Env} {d : Option Nat} {v : V} {t : Nat} (h : e t = e' t) : e.put n d v t = e'.put n d v t := by
  cases d with
  | none => exact h
  | some d =>
    simp only [Env.put]
    cases hb : Nat.blt d n with
    | false => simpa using h
    | true => simp only [cond_true, h]

theorem cur_append (M : Nat → Bool) : ∀ (A B : List Tr) (e : Env), curEnv n M (A ++ B) e = curEnv n M B (curEnv n M A e)
  | [], B, e => rfl
  | s :: A, B, e => cur_append M A B _

theorem cur_agree (M : Nat → Bool) {t : Nat} : ∀ (X : List Tr) (e e' : Env), (∀ p ∈ X, p.o.dst = some t → M p.i = true) → e t = e' t → curEnv n M X e t = envAfter n X e' t
  | [], e, e', _, h => h
  | s :: X, e, e', hX, h => by
    simp only [curEnv, envAfter]
    refine cur_agree M X _ _ (fun p hp => hX p (by simp [hp])) ?_
    split
    · exact put_same h
    · rename_i hm
      rw [put_other fun q => hm (hX s (by simp) q)]; exact h

theorem cur_skip (M : Nat → Bool) {t : Nat} : ∀ (Y : List Tr) (e : Env), (∀ p ∈ Y, p.o.dst = some t → M p.i = false) → curEnv n M Y e t = e t
  | [], e, _ => rfl
  | s :: Y, e, h => by
    simp only [curEnv]
    rw [cur_skip M Y _ fun p hp => h p (by simp [hp])]
    split
    · rename_i hm; rw [put_other fun q => by rw [h s (by simp) q] at hm; cases hm]
    · rfl

theorem cur_same (M : Nat → Bool) {t : Nat} : ∀ (Y : List Tr) (e e' : Env), e t = e' t → curEnv n M Y e t = curEnv n M Y e' t
  | [], _, _, h => h
  | s :: Y, e, e', h => by
    simp only [curEnv]
    refine cur_same M Y _ _ ?_
    split
    · exact put_same h
    · exact h

theorem cur_congr (M M' : Nat → Bool) : ∀ (Y : List Tr) (e : Env), (∀ p ∈ Y, M p.i = M' p.i) → curEnv n M Y e = curEnv n M' Y e
  | [], _, _ => rfl
  | s :: Y, e, h => by
    simp only [curEnv]
    rw [h s (by simp), cur_congr M M' Y _ fun p hp => h p (by simp [hp])]

/-- a step of the chosen order, taken now -/
theorem cur_step (M : Nat → Bool) {d : Option Nat} {v : V} (Y : List Tr) (e : Env) (h : ∀ p ∈ Y, M p.i = true → ∀ t, d = some t → p.o.dst ≠ some t) (t : Nat) : curEnv n M Y (e.put n d v) t = (curEnv n M Y e).put n d v t := by
  cases d with
  | none => rfl
  | some d =>
    by_cases ht : t = d
    · subst ht
      rw [cur_skip M Y _ fun p hp hd => by
        cases hm : M p.i with
        | false => rfl
        | true => exact absurd hd (h p hp hm t rfl)]
      refine put_same ?_
      rw [cur_skip M Y _ fun p hp hd => by
        cases hm : M p.i with
        | false => rfl
        | true => exact absurd hd (h p hp hm t rfl)]
    · rw [put_other (fun q => ht (by cases q; rfl))]
      exact cur_same M Y _ _ (put_other (fun q => ht (by cases q; rfl)))

end Go.AM
