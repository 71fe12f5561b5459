import Derived.Test.YtbnjeldcndpdoaaAmReg3
set_option linter.all false
/- Regions whose order is drawn: blocks that are laid early, orders, slots. -/
namespace Go.AM
open Go.RowKit (Below)

variable {P : Program} {N : Nat} {w₀ : World} {ρ : Ren} {H : Heap} {w : World} {σ : Calls'} {n : Nat} {ops : Array Oper} {fl : List Nat} {base : Nat}

theorem Heap.get_set_ne (H : Heap) (b : Nat) (x : Option Blk) {c : Nat} (h : c ≠ b) : (H.set b x).get c = H.get c := by
  show (H.tree.set b x).get c = _
  rw [BT.get_set b x c H.ok, if_neg (fun q => h q.1)]
  rfl

/-- the floats of a list that are laid -/
def setFl (M : Nat → Bool) (base : Nat) : List Tr → Heap → Heap
  | [], G => G
  | s :: B, G => match s.kd with
    | .float j => if M s.i then setFl M base B (G.set (base + j) (s.H'.get (base + j))) else setFl M base B G
    | _ => setFl M base B G

theorem setFl_next (M : Nat → Bool) : ∀ (B : List Tr) (G : Heap), (setFl M base B G).next = G.next
  | [], G => rfl
  | s :: B, G => by
    unfold setFl
    cases s.kd <;> simp only <;> try exact setFl_next M B G
    split
    · rw [setFl_next M B, Heap.next_set]
    · exact setFl_next M B G

theorem setFl_append (M : Nat → Bool) : ∀ (A B : List Tr) (G : Heap), setFl M base (A ++ B) G = setFl M base B (setFl M base A G)
  | [], B, G => rfl
  | s :: A, B, G => by
    simp only [List.cons_append, setFl]
    cases s.kd <;> simp only <;> try exact setFl_append M A B G
    split <;> exact setFl_append M A B _

theorem setFl_other (M : Nat → Bool) {b : Nat} : ∀ (B : List Tr) (G : Heap), (∀ s ∈ B, ∀ j, s.kd = .float j → M s.i = true → base + j ≠ b) → (setFl M base B G).get b = G.get b
  | [], G, _ => rfl
  | s :: B, G, h => by
    unfold setFl
    have hB := fun G => setFl_other M B G fun s hs => h s (by simp [hs])
    cases hk : s.kd <;> simp only <;> try exact hB G
    rename_i j
    split
    · rename_i hm
      rw [hB, Heap.get_set_ne]
      exact fun e => h s (by simp) j hk hm e.symm
    · exact hB G

theorem setFl_congr (M M' : Nat → Bool) : ∀ (B : List Tr) (G : Heap), (∀ s ∈ B, ∀ j, s.kd = .float j → M s.i = M' s.i) → setFl M base B G = setFl M' base B G
  | [], G, _ => rfl
  | s :: B, G, h => by
    unfold setFl
    have hB := fun G => setFl_congr M M' B G fun s hs => h s (by simp [hs])
    cases hk : s.kd <;> simp only <;> try exact hB G
    rename_i j
    rw [h s (by simp) j hk]
    split <;> exact hB _

/-- two heaps under the same floats: either the float's block, or their own -/
theorem setFl_both (M : Nat → Bool) : ∀ (B : List Tr) (G G' : Heap), (∀ s ∈ B, ∀ j, s.kd = .float j → base + j < G.next ∧ base + j < G'.next) → ∀ b,
    ((∃ s ∈ B, ∃ j, s.kd = .float j ∧ M s.i = true ∧ base + j = b) ∧ (setFl M base B G).get b = (setFl M base B G').get b) ∨ ((setFl M base B G).get b = G.get b ∧ (setFl M base B G').get b = G'.get b)
  | [], G, G', _, b => .inr ⟨rfl, rfl⟩
  | s :: B, G, G', h, b => by
    unfold setFl
    have hB := fun (G G' : Heap) (e : G.next = G.next) h' => setFl_both M B G G' h' b
    have hrest : ∀ (G1 G1' : Heap), G1.next = G.next → G1'.next = G'.next → ∀ s ∈ B, ∀ j, s.kd = .float j → base + j < G1.next ∧ base + j < G1'.next := by
      intro G1 G1' e1 e2 s hs j hj
      rw [e1, e2]; exact h s (by simp [hs]) j hj
    have lift : (((∃ s ∈ B, ∃ j, s.kd = .float j ∧ M s.i = true ∧ base + j = b) ∧ (setFl M base B G).get b = (setFl M base B G').get b) ∨ ((setFl M base B G).get b = G.get b ∧ (setFl M base B G').get b = G'.get b)) →
        (((∃ s' ∈ s :: B, ∃ j, s'.kd = .float j ∧ M s'.i = true ∧ base + j = b) ∧ (setFl M base B G).get b = (setFl M base B G').get b) ∨ ((setFl M base B G).get b = G.get b ∧ (setFl M base B G').get b = G'.get b)) := by
      rintro (⟨⟨s', hs', r⟩, q⟩ | q)
      · exact .inl ⟨⟨s', by simp [hs'], r⟩, q⟩
      · exact .inr q
    cases hk : s.kd <;> simp only <;> try exact lift (setFl_both M B G G' (hrest G G' rfl rfl) b)
    rename_i j
    split
    · rename_i hm
      have hlt := h s (by simp) j hk
      rcases setFl_both M B (G.set (base + j) (s.H'.get (base + j))) (G'.set (base + j) (s.H'.get (base + j))) (hrest _ _ (Heap.next_set _ _ _) (Heap.next_set _ _ _)) b with ⟨⟨s', hs', r⟩, q⟩ | ⟨q1, q2⟩
      · exact .inl ⟨⟨s', by simp [hs'], r⟩, q⟩
      · by_cases hb : b = base + j
        · subst hb
          refine .inl ⟨⟨s, by simp, j, hk, hm, rfl⟩, ?_⟩
          rw [q1, q2, Heap.get_set _ _ _ _ hlt.1, Heap.get_set _ _ _ _ hlt.2]; simp
        · rw [Heap.get_set_ne _ _ _ hb] at q1
          rw [Heap.get_set_ne _ _ _ hb] at q2
          exact .inr ⟨q1, q2⟩
    · exact lift (setFl_both M B G G' (hrest G G' rfl rfl) b)

theorem Rel.congr {H' : Heap} (h : Rel N w₀ ρ H w) (hn : H'.next = H.next) (hg : ∀ b, H'.get b = H.get b) : Rel N w₀ ρ H' w :=
  ⟨h.below, h.big, fun b hb => h.dom b (by omega), h.base, fun b x hb => h.blk b x (by rw [← hg]; exact hb), fun b b' x x' L L' hb hb' => h.inj b b' x x' L L' (by rw [← hg]; exact hb) (by rw [← hg]; exact hb')⟩

theorem Rel.shrink {H' : Heap} (h : Rel N w₀ ρ H w) (hn : H'.next = H.next) (hg : ∀ b x, H'.get b = some x → H.get b = some x) : Rel N w₀ ρ H' w :=
  ⟨h.below, h.big, fun b hb => h.dom b (by omega), h.base, fun b x hb => h.blk b x (hg b x hb), fun b b' x x' L L' hb hb' => h.inj b b' x x' L L' (hg _ _ hb) (hg _ _ hb')⟩

theorem Ext.congr {ρ' : Ren} {K H' : Heap} {w' : World} (h : Ext ρ K w ρ' H w') (hn : H'.next = H.next) (hg : ∀ b, H'.get b = H.get b) : Ext ρ K w ρ' H' w' :=
  ⟨h.le, h.same, by rw [hn]; exact h.next, h.apart, fun b x L hb => h.old b x L (by rw [← hg]; exact hb)⟩

/-- the floats are there behind a step, too -/
theorem readd {M : Nat → Bool} {B : List Tr} {G G' : Heap} {ρ' : Ren} {w' : World} (hA : Rel N w₀ ρ (setFl M base B G) w) (hR : Rel N w₀ ρ' G' w') (hE : Ext ρ G w ρ' G' w')
    (hfree : ∀ s ∈ B, ∀ j, s.kd = .float j → G.get (base + j) = none ∧ base + j < G.next ∧ G'.get (base + j) = none) :
    Rel N w₀ ρ' (setFl M base B G') w' ∧ Ext ρ (setFl M base B G) w ρ' (setFl M base B G') w' := by
  have hboth := setFl_both M B G G' fun s hs j hj => ⟨(hfree s hs j hj).2.1, Nat.lt_of_lt_of_le (hfree s hs j hj).2.1 hE.next⟩
  have hn1 := setFl_next (base := base) M B G
  have hn2 := setFl_next (base := base) M B G'
  have hGA : ∀ b x, G.get b = some x → (setFl M base B G).get b = some x := by
    intro b x hb
    rcases hboth b with ⟨⟨s, hs, j, hj, _, rfl⟩, _⟩ | ⟨q, _⟩
    · rw [(hfree s hs j hj).1] at hb; cases hb
    · rw [q]; exact hb
  have hG'A : ∀ b x, G'.get b = some x → (setFl M base B G').get b = some x := by
    intro b x hb
    rcases hboth b with ⟨⟨s, hs, j, hj, _, rfl⟩, _⟩ | ⟨_, q⟩
    · rw [(hfree s hs j hj).2.2] at hb; cases hb
    · rw [q]; exact hb
  -- a block behind the step is a float's, as before, or one of G'
  have hkind : ∀ b x, (setFl M base B G').get b = some x → ((setFl M base B G).get b = some x ∧ G.get b = none ∧ b < G.next) ∨ G'.get b = some x := by
    intro b x hb
    rcases hboth b with ⟨⟨s, hs, j, hj, _, rfl⟩, q⟩ | ⟨_, q⟩
    · exact .inl ⟨by rw [q]; exact hb, (hfree s hs j hj).1, (hfree s hs j hj).2.1⟩
    · exact .inr (by rw [← q]; exact hb)
  -- a float's real block is none of G's
  have hfl : ∀ b x L, (setFl M base B G).get b = some x → G.get b = none → ρ b = some L → ∀ b0 x0 L0, G.get b0 = some x0 → ρ b0 = some L0 → L0.blk ≠ L.blk := by
    intro b x L hb hn hL b0 x0 L0 hb0 hL0
    exact hA.inj b0 b x0 x L0 L (hGA _ _ hb0) hb (fun e => by rw [e, hn] at hb0; cases hb0) hL0 hL
  refine ⟨⟨hR.below, hR.big, fun b hb => hR.dom b (by omega), hR.base, fun b x hb => ?_, fun b b' x x' L L' hb hb' hne hL hL' => ?_⟩, ⟨hE.le, fun b hb => hE.same b (by omega), by rw [hn1, hn2]; exact hE.next, ⟨hE.apart.1, fun c hc hn => hE.apart.2 c hc fun b x L hb hL => hn b x L (hGA _ _ hb) hL⟩, fun b x L hb hL => ?_⟩⟩
  · rcases hkind b x hb with ⟨h1, h2, h3⟩ | h1
    · obtain ⟨L, hL, hr⟩ := hA.blk b x h1
      refine ⟨L, by rw [hE.same b h3]; exact hL, hr.mono hE.le (hE.apart.2 _ (hA.lt h1 hL) fun b0 x0 L0 hb0 hL0 => hfl b x L h1 h2 hL b0 x0 L0 hb0 hL0)⟩
    · exact hR.blk b x h1
  · rcases hkind b x hb with ⟨h1, h2, h3⟩ | h1 <;> rcases hkind b' x' hb' with ⟨g1, g2, g3⟩ | g1
    · rw [hE.same b h3] at hL; rw [hE.same b' g3] at hL'
      exact hA.inj b b' x x' L L' h1 g1 hne hL hL'
    · rw [hE.same b h3] at hL
      rcases hE.old b' x' L' g1 hL' with q | ⟨b0, x0, L0, q1, q2, q3⟩
      · have := hA.lt h1 hL; omega
      · rw [← q3]; exact fun e => hfl b x L h1 h2 hL b0 x0 L0 q1 q2 e.symm
    · rw [hE.same b' g3] at hL'
      rcases hE.old b x L h1 hL with q | ⟨b0, x0, L0, q1, q2, q3⟩
      · have := hA.lt g1 hL'; omega
      · rw [← q3]; exact fun e => hfl b' x' L' g1 g2 hL' b0 x0 L0 q1 q2 e
    · exact hR.inj b b' x x' L L' h1 g1 hne hL hL'
  · rcases hkind b x hb with ⟨h1, h2, h3⟩ | h1
    · rw [hE.same b h3] at hL; exact .inr ⟨b, x, L, h1, hL, rfl⟩
    · rcases hE.old b x L h1 hL with q | ⟨b0, x0, L0, q1, q2, q3⟩
      · exact .inl q
      · exact .inr ⟨b0, x0, L0, hGA _ _ q1, q2, q3⟩

/-! ### what comes ahead of what -/

theorem inner_bits (Mp : Nat → Prop) (acc : Array Nat) (hacc : ∀ j, Mp j → ∀ i, (acc.getD j 0).testBit i = true → Mp i) : ∀ (es : List Edge) (s : Nat), (∀ i, s.testBit i = true → Mp i) → (∀ e ∈ es, Region.binds .any e = true → Mp e.on) →
    ∀ i, (es.foldl (fun s e => if Region.binds .any e then s ||| 2 ^ e.on ||| acc.getD e.on 0 else s) s).testBit i = true → Mp i
  | [], s, hs, _ => hs
  | e :: es, s, hs, he => by
    simp only [List.foldl_cons]
    refine inner_bits Mp acc hacc es _ (fun i hi => ?_) fun e' h' => he e' (by simp [h'])
    split at hi
    · rename_i hb
      have hon := he e (by simp) hb
      simp only [Nat.testBit_or, Bool.or_eq_true, Nat.testBit_two_pow, decide_eq_true_eq] at hi
      rcases hi with (hi | hi) | hi
      · exact hs i hi
      · subst hi; exact hon
      · exact hacc e.on hon i hi
    · exact hs i hi

theorem before_sound {Mp : Nat → Prop} (down : ∀ j, Mp j → ∃ o, ops[j]? = some o ∧ ∀ e ∈ o.after.toList, Region.binds .any e = true → Mp e.on) : ∀ j, Mp j → ∀ i, ancB (Region.before ops) j i = true → Mp i := by
  have key : ∀ (l : List Oper) (acc : Array Nat), (∀ j, l[j]? = ops[acc.size + j]?) → (∀ j, Mp j → ∀ i, (acc.getD j 0).testBit i = true → Mp i) →
      ∀ j, Mp j → ∀ i, ((l.foldl (fun (acc : Array Nat) (o : Oper) => acc.push (o.after.foldl (fun s e => if Region.binds .any e then s ||| 2 ^ e.on ||| acc.getD e.on 0 else s) 0)) acc).getD j 0).testBit i = true → Mp i := by
    intro l
    induction l with
    | nil => intro acc _ h; exact h
    | cons o l ih =>
      intro acc hl h
      simp only [List.foldl_cons]
      refine ih _ (fun j => ?_) fun j hj i hi => ?_
      · have := hl (j + 1)
        simp only [List.getElem?_cons_succ] at this
        rw [this, Array.size_push]; congr 1; omega
      · rw [Array.getD_eq_getD_getElem?, Array.getElem?_push] at hi
        split at hi
        · rename_i hjs
          simp only [Option.getD_some] at hi
          obtain ⟨o', ho', he⟩ := down j hj
          have h0 := hl 0
          simp only [List.getElem?_cons_zero, Nat.add_zero] at h0
          rw [hjs, ← h0] at ho'; cases ho'
          rw [← Array.foldl_toList] at hi
          exact inner_bits Mp acc h o.after.toList 0 (by simp) he i hi
        · rw [← Array.getD_eq_getD_getElem?] at hi
          exact h j hj i hi
  intro j hj i hi
  unfold ancB Region.before at hi
  rw [← Array.foldl_toList] at hi
  exact key ops.toList #[] (fun j => by simp) (by simp) j hj i hi

theorem okOrder_spec {bf : Array Nat} : ∀ (perm done : List Nat), okOrder P ops bf fl done perm = true → ∀ X j Y, perm = X ++ j :: Y →
    ∃ o, ops[j]? = some o ∧ j ∉ done ∧ j ∉ X ∧ (∀ e ∈ o.after.toList, Region.binds .any e = true → e.on ∈ done ∨ e.on ∈ X) ∧ (∀ i, i ∈ done ∨ i ∈ X → okPair P ops bf fl i j = true) ∧ (∀ cs b, o.op ≠ .select cs b)
  | [], done, h, X, j, Y, he => by cases X <;> simp at he
  | i :: rest, done, h, X, j, Y, he => by
    simp only [okOrder] at h
    cases ho : ops[i]? with
    | none => rw [ho] at h; cases h
    | some o =>
      rw [ho] at h
      simp only [Bool.and_eq_true, Bool.not_eq_true', List.all_eq_true, Bool.or_eq_true] at h
      obtain ⟨⟨⟨⟨h1, h2⟩, h3⟩, h4⟩, h5⟩ := h
      cases X with
      | nil =>
        simp only [List.nil_append, List.cons.injEq] at he
        obtain ⟨rfl, rfl⟩ := he
        refine ⟨o, ho, by simpa using h1, by simp, fun e he hb => ?_, fun i hi => ?_, fun cs b hs => ?_⟩
        · rcases h2 e he with q | q
          · rw [hb] at q; cases q
          · exact .inl (by simpa using q)
        · rcases hi with hi | hi
          · exact h4 i hi
          · simp at hi
        · rw [hs] at h3; cases h3
      | cons x X =>
        simp only [List.cons_append, List.cons.injEq] at he
        obtain ⟨rfl, rfl⟩ := he
        obtain ⟨o', g1, g2, g3, g4, g5, g6⟩ := okOrder_spec _ _ h5 X j Y rfl
        refine ⟨o', g1, fun q => g2 (by simp [q]), fun q => ?_, fun e he hb => ?_, fun i' hi => ?_, g6⟩
        · rcases List.mem_cons.1 q with q | q
          · exact g2 (by simp [q])
          · exact g3 q
        · rcases g4 e he hb with q | q
          · rcases List.mem_cons.1 q with q | q
            · exact .inr (by simp [q])
            · exact .inl q
          · exact .inr (by simp [q])
        · rcases hi with hi | hi
          · exact g5 i' (.inl (by simp [hi]))
          · rcases List.mem_cons.1 hi with hi | hi
            · exact g5 i' (.inl (by simp [hi]))
            · exact g5 i' (.inr hi)

/-! ### slots -/

def curEnv (n : Nat) (M : Nat → Bool) : List Tr → Env → Env
  | [], e => e
  | s :: r, e => curEnv n M r (if M s.i then e.put n s.o.dst s.v else e)

theorem put_other {e : Env} {d : Option Nat} {v : V} {t : Nat} (h : d ≠ some t) : e.put n d v t = e t := by
  cases d with
  | none => rfl
  | some d =>
    simp only [Env.put]
    cases hb : Nat.blt d n with
    | false => simp only [cond_false]
    | true =>
      have hq : Nat.beq t d = false := beq_f (fun q => h (by rw [q]))
      simp only [cond_true, hq, cond_false]

theorem put_same {e e' : Env} {d : Option Nat} {v : V} {t : Nat} (h : e t = e' t) : e.put n d v t = e'.put n d v t := by
  cases d with
  | none => exact h
  | some d =>
    simp only [Env.put]
    cases hb : Nat.blt d n with
    | false => simpa using h
    | true => simp only [cond_true, h]

theorem cur_append (M : Nat → Bool) : ∀ (A B : List Tr) (e : Env), curEnv n M (A ++ B) e = curEnv n M B (curEnv n M A e)
  | [], B, e => rfl
  | s :: A, B, e => cur_append M A B _

theorem cur_agree (M : Nat → Bool) {t : Nat} : ∀ (X : List Tr) (e e' : Env), (∀ p ∈ X, p.o.dst = some t → M p.i = true) → e t = e' t → curEnv n M X e t = envAfter n X e' t
  | [], e, e', _, h => h
  | s :: X, e, e', hX, h => by
    simp only [curEnv, envAfter]
    refine cur_agree M X _ _ (fun p hp => hX p (by simp [hp])) ?_
    split
    · exact put_same h
    · rename_i hm
      rw [put_other fun q => hm (hX s (by simp) q)]; exact h

theorem cur_skip (M : Nat → Bool) {t : Nat} : ∀ (Y : List Tr) (e : Env), (∀ p ∈ Y, p.o.dst = some t → M p.i = false) → curEnv n M Y e t = e t
  | [], e, _ => rfl
  | s :: Y, e, h => by
    simp only [curEnv]
    rw [cur_skip M Y _ fun p hp => h p (by simp [hp])]
    split
    · rename_i hm; rw [put_other fun q => by rw [h s (by simp) q] at hm; cases hm]
    · rfl

theorem cur_same (M : Nat → Bool) {t : Nat} : ∀ (Y : List Tr) (e e' : Env), e t = e' t → curEnv n M Y e t = curEnv n M Y e' t
  | [], _, _, h => h
  | s :: Y, e, e', h => by
    simp only [curEnv]
    refine cur_same M Y _ _ ?_
    split
    · exact put_same h
    · exact h

theorem cur_congr (M M' : Nat → Bool) : ∀ (Y : List Tr) (e : Env), (∀ p ∈ Y, M p.i = M' p.i) → curEnv n M Y e = curEnv n M' Y e
  | [], _, _ => rfl
  | s :: Y, e, h => by
    simp only [curEnv]
    rw [h s (by simp), cur_congr M M' Y _ fun p hp => h p (by simp [hp])]

/-- a step of the chosen order, taken now -/
theorem cur_step (M : Nat → Bool) {d : Option Nat} {v : V} (Y : List Tr) (e : Env) (h : ∀ p ∈ Y, M p.i = true → ∀ t, d = some t → p.o.dst ≠ some t) (t : Nat) : curEnv n M Y (e.put n d v) t = (curEnv n M Y e).put n d v t := by
  cases d with
  | none => rfl
  | some d =>
    by_cases ht : t = d
    · subst ht
      rw [cur_skip M Y _ fun p hp hd => by
        cases hm : M p.i with
        | false => rfl
        | true => exact absurd hd (h p hp hm t rfl)]
      refine put_same ?_
      rw [cur_skip M Y _ fun p hp hd => by
        cases hm : M p.i with
        | false => rfl
        | true => exact absurd hd (h p hp hm t rfl)]
    · rw [put_other (fun q => ht (by cases q; rfl))]
      exact cur_same M Y _ _ (put_other (fun q => ht (by cases q; rfl)))

end Go.AM

/- Regions whose order is drawn: whatever order is drawn, what the run in one order says holds. -/
namespace Go.AM
open Go.RowKit (Below)

variable {P : Program} {N : Nat} {w₀ : World} {ρ : Ren} {H : Heap} {w : World} {σ : Calls'} {n : Nat} {ops : Array Oper} {fl : List Nat} {base : Nat}

theorem idxOf_inj : ∀ (l : List Nat) {a b j : Nat}, idxOf l a = some j → idxOf l b = some j → a = b
  | [], a, b, j, h, _ => by simp [idxOf] at h
  | x :: xs, a, b, j, h, g => by
    simp only [idxOf] at h g
    cases ha : Nat.beq x a with
    | true =>
      cases hb : Nat.beq x b with
      | true => rw [← Nat.eq_of_beq_eq_true ha, ← Nat.eq_of_beq_eq_true hb]
      | false =>
        rw [ha] at h; rw [hb] at g
        simp only [cond_true, cond_false] at h g
        cases h
        split at g <;> cases g
    | false =>
      rw [ha] at h
      simp only [cond_false] at h
      split at h
      · rename_i j' hj'; cases h
        cases hb : Nat.beq x b with
        | true => rw [hb] at g; simp at g
        | false =>
          rw [hb] at g
          simp only [cond_false] at g
          split at g
          · rename_i j2 hj2; cases g; exact idxOf_inj xs hj' hj2
          · cases g
      · cases h

theorem kept_mem {i j : Nat} (hj : idxOf fl i = some j) : ∀ (l : List Nat), i ∈ l → base + j ∈ kept fl base l
  | [], h => by simp at h
  | x :: xs, h => by
    simp only [kept]
    rcases List.mem_cons.1 h with rfl | h
    · rw [hj]; simp
    · have := kept_mem hj xs h
      split <;> simp [this]

theorem freeIn_spec {H : Heap} {b : Nat} : ∀ (l : List Nat), freeIn H l = true → b ∈ l → H.get b = none ∧ b < H.next
  | [], _, h => by simp at h
  | x :: xs, hf, h => by
    simp only [freeIn, Bool.and_eq_true] at hf
    rcases List.mem_cons.1 h with rfl | h
    · have := hf.1
      split at this
      · rename_i hn; exact ⟨hn, Nat.blt_eq.mp this⟩
      · cases this
    · exact freeIn_spec xs hf.2 h

theorem kd_float {P : Program} {i : Nat} {o : Oper} {j : Nat} (h : kindD P fl i o = .float j) : idxOf fl i = some j := by
  unfold kindD at h; split at h
  · cases h; assumption
  · split at h <;> cases h
theorem kd_cls {P : Program} {i : Nat} {o : Oper} (h : kindD P fl i o = .quiet) : cls P o.op = .mv ∨ cls P o.op = .pure := by
  unfold kindD at h; split at h
  · cases h
  · split at h <;> first | (left; assumption) | (right; assumption) | cases h
theorem kd_read {P : Program} {i : Nat} {o : Oper} (h : kindD P fl i o = .read) : cls P o.op = .read := by
  unfold kindD at h; split at h
  · cases h
  · split at h <;> first | assumption | cases h

/-- the heap at a step: its version, and the floats since -/
theorem heap_seg {perm : List Nat} {e ef : Env} {Hs Hf : Heap} {tr : List Tr} (h : Run P σ n ops fl base perm e Hs tr ef Hf) : ∀ (V0 : Heap) (D0 : List Tr), Hs = setFl (fun _ => true) base D0 V0 →
    (∀ X s Y, tr = X ++ s :: Y → s.H = setFl (fun _ => true) base (if cnt X = 0 then D0 ++ X else after (cnt X) X) (verAt (cnt X) V0 tr)) ∧
    Hf = setFl (fun _ => true) base (if cnt tr = 0 then D0 ++ tr else after (cnt tr) tr) (verAt (cnt tr) V0 tr) := by
  induction h with
  | nil => intro V0 D0 hH; exact ⟨fun X s Y he => by cases X <;> simp at he, by simpa [cnt, verAt] using hH⟩
  | @cons i rest e H o v H' tr ef Hf h1 h2 h3 h4 ih =>
    intro V0 D0 hH
    -- a step that is not of the chain
    have plain : (kindD P fl i o).isChain = false → H' = setFl (fun _ => true) base (D0 ++ [⟨i, o, kindD P fl i o, e, H, v, H'⟩]) V0 →
        (∀ X s Y, (⟨i, o, kindD P fl i o, e, H, v, H'⟩ : Tr) :: tr = X ++ s :: Y → s.H = setFl (fun _ => true) base (if cnt X = 0 then D0 ++ X else after (cnt X) X) (verAt (cnt X) V0 (⟨i, o, kindD P fl i o, e, H, v, H'⟩ :: tr))) ∧
        Hf = setFl (fun _ => true) base (if cnt ((⟨i, o, kindD P fl i o, e, H, v, H'⟩ : Tr) :: tr) = 0 then D0 ++ (⟨i, o, kindD P fl i o, e, H, v, H'⟩ :: tr) else after (cnt ((⟨i, o, kindD P fl i o, e, H, v, H'⟩ : Tr) :: tr)) (⟨i, o, kindD P fl i o, e, H, v, H'⟩ :: tr)) (verAt (cnt ((⟨i, o, kindD P fl i o, e, H, v, H'⟩ : Tr) :: tr)) V0 (⟨i, o, kindD P fl i o, e, H, v, H'⟩ :: tr)) := by
      intro hc hH'
      obtain ⟨g1, g2⟩ := ih V0 (D0 ++ [⟨i, o, kindD P fl i o, e, H, v, H'⟩]) hH'
      have hver : ∀ k, verAt k V0 ((⟨i, o, kindD P fl i o, e, H, v, H'⟩ : Tr) :: tr) = verAt k V0 tr := by
        intro k; cases k with
        | zero => simp [verAt]
        | succ k => simp [verAt, hc]
      have haft : ∀ k X, k ≠ 0 → after k ((⟨i, o, kindD P fl i o, e, H, v, H'⟩ : Tr) :: X) = after k X := by
        intro k X hk; cases k with
        | zero => exact absurd rfl hk
        | succ k => simp [after, hc]
      have hcnt : ∀ X, cnt ((⟨i, o, kindD P fl i o, e, H, v, H'⟩ : Tr) :: X) = cnt X := by intro X; simp [cnt, hc]
      refine ⟨fun X s Y he => ?_, ?_⟩
      · cases X with
        | nil =>
          simp only [List.nil_append, List.cons.injEq] at he
          obtain ⟨rfl, rfl⟩ := he
          simpa [cnt, verAt] using hH
        | cons x X =>
          simp only [List.cons_append, List.cons.injEq] at he
          obtain ⟨rfl, rfl⟩ := he
          rw [g1 X s Y rfl, hcnt, hver]
          by_cases hz : cnt X = 0
          · rw [if_pos hz, if_pos hz]; simp
          · rw [if_neg hz, if_neg hz, haft _ _ hz]
      · rw [g2, hcnt, hver]
        by_cases hz : cnt tr = 0
        · rw [if_pos hz, if_pos hz]; simp
        · rw [if_neg hz, if_neg hz, haft _ _ hz]
    have setLast : ∀ s : Tr, setFl (fun _ => true) base (D0 ++ [s]) V0 = (match s.kd with | .float j => H.set (base + j) (s.H'.get (base + j)) | _ => H) := by
      intro s
      rw [setFl_append, ← hH]
      unfold setFl
      cases s.kd <;> rfl
    cases hk : kindD P fl i o with
    | quiet =>
      rw [hk] at h2 plain
      obtain ⟨rfl, _⟩ := quiet_any (kd_cls hk) h2
      exact plain rfl (by rw [setLast])
    | read =>
      rw [hk] at h2 plain
      have := read_any (kd_read hk) h2; subst this
      exact plain rfl (by rw [setLast])
    | float j =>
      rw [hk] at h2 plain
      obtain ⟨_, _, x, v0, _, _, q1, q2, rfl⟩ := h2
      refine plain rfl ?_
      rw [setLast]
      simp only [Heap.get_set _ _ _ _ q2, if_true]
    | chain =>
      obtain ⟨g1, g2⟩ := ih H' [] rfl
      refine ⟨fun X s Y he => ?_, ?_⟩
      · cases X with
        | nil =>
          simp only [List.nil_append, List.cons.injEq] at he
          obtain ⟨rfl, rfl⟩ := he
          simpa [cnt, verAt] using hH
        | cons x X =>
          simp only [List.cons_append, List.cons.injEq] at he
          obtain ⟨rfl, rfl⟩ := he
          rw [g1 X s Y rfl]
          simp only [cnt, KD.isChain, if_true, List.nil_append]
          have e1 : ¬ (1 + cnt X = 0) := by omega
          rw [if_neg e1, show 1 + cnt X = cnt X + 1 by omega]
          simp only [verAt, after, KD.isChain, if_true]
          by_cases hz : cnt X = 0
          · rw [if_pos hz, hz]; simp [after]
          · rw [if_neg hz]
      · rw [g2]
        simp only [cnt, KD.isChain, if_true, List.nil_append]
        have e1 : ¬ (1 + cnt tr = 0) := by omega
        rw [if_neg e1, show 1 + cnt tr = cnt tr + 1 by omega]
        simp only [verAt, after, KD.isChain, if_true]
        by_cases hz : cnt tr = 0
        · rw [if_pos hz, hz]; simp [after]
        · rw [if_neg hz]

/-- a float's number is free in each version ahead of it -/
theorem ver_free' {perm : List Nat} {e ef : Env} {Hs Hf : Heap} {tr : List Tr} (h : Run P σ n ops fl base perm e Hs tr ef Hf) : ∀ (V : Heap) (X : List Tr) (s : Tr) (Y : List Tr) (j k : Nat), tr = X ++ s :: Y → s.kd = .float j → k + 1 ≤ cnt X →
    (verAt (k + 1) V tr).get (base + j) = none ∧ base + j < (verAt (k + 1) V tr).next := by
  induction h with
  | nil => intro V X s Y j k he; cases X <;> simp at he
  | @cons i rest e H o v H' tr ef Hf h1 h2 h3 h4 ih =>
    intro V X s Y j k he hs hk
    cases X with
    | nil => simp [cnt] at hk
    | cons x X =>
      simp only [List.cons_append, List.cons.injEq] at he
      obtain ⟨rfl, rfl⟩ := he
      simp only [cnt] at hk
      cases hc : (kindD P fl i o).isChain with
      | true =>
        simp only [hc, if_true] at hk
        simp only [verAt, hc, if_true]
        cases k with
        | zero =>
          simp only [verAt]
          have hkd : kindD P fl i o = .chain := by cases hq : kindD P fl i o <;> rw [hq] at hc <;> first | rfl | cases hc
          rw [hkd] at h3
          simp only [chainEnd, Bool.and_eq_true] at h3
          have hmem : s.i ∈ rest := by rw [← h4.map_i]; simp
          have hidx : idxOf fl s.i = some j := by
            obtain ⟨_, _, _, q, _⟩ := h4.split rfl
            rw [hs] at q; exact kd_float q.symm
          exact freeIn_spec _ h3.2 (kept_mem hidx rest hmem)
        | succ k => exact ih H' X s Y j k rfl hs (by omega)
      | false =>
        simp only [hc, Bool.false_eq_true, if_false, Nat.zero_add] at hk
        simp only [verAt, hc, Bool.false_eq_true, if_false]
        exact ih V X s Y j k rfl hs hk

theorem ver_free {perm : List Nat} {e ef : Env} {Hs Hf : Heap} {tr : List Tr} (h : Run P σ n ops fl base perm e Hs tr ef Hf) (hf : freeIn Hs (kept fl base perm) = true) {X : List Tr} {s : Tr} {Y : List Tr} {j k : Nat} (he : tr = X ++ s :: Y) (hs : s.kd = .float j) (hk : k ≤ cnt X) :
    (verAt k Hs tr).get (base + j) = none ∧ base + j < (verAt k Hs tr).next := by
  cases k with
  | zero =>
    simp only [verAt]
    have hmem : s.i ∈ perm := by rw [← h.map_i, he]; simp
    obtain ⟨_, _, _, q, _⟩ := h.split he
    rw [hs] at q
    exact freeIn_spec _ hf (kept_mem (kd_float q.symm) perm hmem)
  | succ k => exact ver_free' h Hs X s Y j k he hs hk

/-- the k-th of the chain -/
theorem chain_at : ∀ (X : List Tr) (k : Nat), k < cnt X → ∃ X1 p X2, X = X1 ++ p :: X2 ∧ p.kd.isChain = true ∧ cnt X1 = k
  | [], k, h => by simp [cnt] at h
  | x :: X, k, h => by
    simp only [cnt] at h
    cases hc : x.kd.isChain with
    | true =>
      cases k with
      | zero => exact ⟨[], x, X, rfl, hc, rfl⟩
      | succ k =>
        simp only [hc, if_true] at h
        obtain ⟨X1, p, X2, h1, h2, h3⟩ := chain_at X k (by omega)
        exact ⟨x :: X1, p, X2, by simp [h1], h2, by simp [cnt, hc, h3]; omega⟩
    | false =>
      simp only [hc, Bool.false_eq_true, if_false, Nat.zero_add] at h
      obtain ⟨X1, p, X2, h1, h2, h3⟩ := chain_at X k h
      exact ⟨x :: X1, p, X2, by simp [h1], h2, by simp [cnt, hc, h3]⟩

theorem chainIs_get : ∀ (tr : List Tr) (j c : Nat), (chainIs tr)[j]? = some c → ∃ X s Y, tr = X ++ s :: Y ∧ s.kd.isChain = true ∧ cnt X = j ∧ s.i = c
  | [], j, c, h => by simp [chainIs] at h
  | x :: tr, j, c, h => by
    simp only [chainIs] at h
    cases hc : x.kd.isChain with
    | true =>
      rw [hc] at h
      simp only [cond_true] at h
      cases j with
      | zero => simp at h; exact ⟨[], x, tr, rfl, hc, rfl, h⟩
      | succ j =>
        obtain ⟨X, s, Y, h1, h2, h3, h4⟩ := chainIs_get tr j c (by simpa using h)
        exact ⟨x :: X, s, Y, by simp [h1], h2, by simp [cnt, hc, h3]; omega, h4⟩
    | false =>
      rw [hc] at h
      obtain ⟨X, s, Y, h1, h2, h3, h4⟩ := chainIs_get tr j c h
      exact ⟨x :: X, s, Y, by simp [h1], h2, by simp [cnt, hc, h3], h4⟩

theorem after_le : ∀ (X : List Tr) (k : Nat) (Z : List Tr), k ≤ cnt X → after k (X ++ Z) = after k X ++ Z
  | X, 0, Z, _ => by simp [after]
  | [], k + 1, Z, h => by simp [cnt] at h
  | x :: X, k + 1, Z, h => by
    simp only [cnt] at h
    cases hc : x.kd.isChain with
    | true => simp only [hc, if_true] at h; simp only [List.cons_append, after, hc, if_true]; exact after_le X k Z (by omega)
    | false => simp only [hc, Bool.false_eq_true, if_false, Nat.zero_add] at h; simp only [List.cons_append, after, hc, Bool.false_eq_true, if_false]; exact after_le X (k + 1) Z h

theorem after_suffix : ∀ (k : Nat) (tr : List Tr), k ≤ cnt tr → ∃ X, tr = X ++ after k tr ∧ k ≤ cnt X
  | 0, tr, _ => ⟨[], by simp [after], by simp⟩
  | k + 1, [], h => by simp [cnt] at h
  | k + 1, x :: tr, h => by
    simp only [cnt] at h
    cases hc : x.kd.isChain with
    | true =>
      simp only [hc, if_true] at h
      obtain ⟨X, h1, h2⟩ := after_suffix k tr (by omega)
      refine ⟨x :: X, ?_, by simp [cnt, hc]; omega⟩
      simp only [after, hc, if_true, List.cons_append]; rw [← h1]
    | false =>
      simp only [hc, Bool.false_eq_true, if_false, Nat.zero_add] at h
      obtain ⟨X, h1, h2⟩ := after_suffix (k + 1) tr h
      refine ⟨x :: X, ?_, by simp [cnt, hc]; omega⟩
      simp only [after, hc, Bool.false_eq_true, if_false, List.cons_append]; rw [← h1]

end Go.AM

/- Regions whose order is drawn: the theorem. -/
namespace Go.AM
open Go.RowKit (Below)

variable {P : Program} {N : Nat} {w₀ : World} {ρ : Ren} {H : Heap} {w : World} {σ : Calls'} {n : Nat} {ops : Array Oper} {fl : List Nat} {base : Nat}

/-- what is known of the region and of its run -/
structure Stat (P : Program) (σ : Calls') (n : Nat) (ops : Array Oper) (fl : List Nat) (base N : Nat) (perm : List Nat) (e0 : Env) (Hs : Heap) (tr : List Tr) (ef : Env) (Hf : Heap) : Prop where
  hσ : SimAll P σ
  hG : P.globals.size ≤ N
  run : Run P σ n ops fl base perm e0 Hs tr ef Hf
  ord : okOrder P ops (Region.before ops) fl [] perm = true
  all : ∀ i, i < ops.size → i ∈ perm
  rd : okRead P ops fl true perm = true
  chk : ∀ X s Y, tr = X ++ s :: Y → s.kd.isRead = true → ∀ k HH, (Hs :: chainHs tr)[k]? = some HH → k ≠ cnt X → compat (Region.before ops) (chainIs tr) s.i k = true → AM.chk (gdM P σ ops s.o s.env) HH s.v = true
  free : freeIn Hs (kept fl base perm) = true

abbrev mm (L : Array Bool) : Nat → Bool := fun i => L.getD i false

def Down (ops : Array Oper) (M : Nat → Bool) : Prop := ∀ i, M i = true → ∃ o, ops[i]? = some o ∧ ∀ e ∈ o.after.toList, Region.binds .any e = true → M e.on = true

/-- what holds whenever some of the operations have been carried out -/
structure Inv (n : Nat) (ops : Array Oper) (base N : Nat) (w₀ : World) (e0 : Env) (Hs : Heap) (tr : List Tr) (ρS : Ren) (HS : Heap) (wS : World) (aS : Act) (L : Array Bool) (a : Act) (w : World) (ρ : Ren) (k : Nat) : Prop where
  size : L.size = ops.size
  down : Down ops (mm L)
  kle : k ≤ cnt tr
  chain : ∀ X s Y, tr = X ++ s :: Y → s.kd.isChain = true → (mm L s.i = true ↔ cnt X < k)
  rel : Rel N w₀ ρ (setFl (mm L) base (after k tr) (verAt k Hs tr)) w
  env : EnvRel n ρ (curEnv n (mm L) tr e0) a
  ext : Ext ρS HS wS ρ (setFl (mm L) base (after k tr) (verAt k Hs tr)) w
  free : ∀ X s Y j, tr = X ++ s :: Y → s.kd = .float j → mm L s.i = false → ρ (base + j) = none
  defers : a.defers = aS.defers

theorem mm_set (L : Array Bool) (i j : Nat) (hi : i < L.size) : mm (L.setIfInBounds i true) j = (if j = i then true else mm L j) := by
  unfold mm
  rw [Array.getD_eq_getD_getElem?, Array.getElem?_setIfInBounds, Array.getD_eq_getD_getElem?]
  by_cases h : i = j
  · subst h; simp [hi]
  · rw [if_neg h, if_neg (fun e => h e.symm)]

theorem ready_spec {L : Array Bool} {i : Nat} (hsz : L.size = ops.size) (h : i ∈ Region.ready .any ops L) : i < ops.size ∧ mm L i = false ∧ ∃ o, ops[i]? = some o ∧ ∀ e ∈ o.after.toList, Region.binds .any e = true → mm L e.on = true := by
  simp only [Region.ready, List.mem_filter, List.mem_range, Bool.and_eq_true, Bool.not_eq_true'] at h
  obtain ⟨h1, h2, h3⟩ := h
  have hL : i < L.size := by omega
  refine ⟨h1, by simpa [mm, hL] using h2, ops[i], by simp [h1], fun e he hb => ?_⟩
  simp only [Array.getElem?_eq_getElem h1, Option.map_some, Option.getD_some, Array.all_eq_true_iff_forall_mem, Bool.or_eq_true, Bool.not_eq_true'] at h3
  rcases h3 e (by simpa using he) with q | q
  · rw [hb] at q; cases q
  · exact q

theorem ready_of {L : Array Bool} {i : Nat} (hsz : L.size = ops.size) {o : Oper} (ho : ops[i]? = some o) (hu : mm L i = false) (he : ∀ e ∈ o.after.toList, Region.binds .any e = true → mm L e.on = true) : i ∈ Region.ready .any ops L := by
  have h1 : i < ops.size := by
    rcases Nat.lt_or_ge i ops.size with q | q
    · exact q
    · simp [Array.getElem?_eq_none q] at ho
  have hL : i < L.size := by omega
  simp only [Region.ready, List.mem_filter, List.mem_range, Bool.and_eq_true, Bool.not_eq_true']
  refine ⟨h1, by simpa [mm, hL] using hu, ?_⟩
  simp only [ho, Option.map_some, Option.getD_some, Array.all_eq_true_iff_forall_mem, Bool.or_eq_true, Bool.not_eq_true']
  intro e hm
  cases hb : Region.binds .any e with
  | false => exact .inl rfl
  | true => exact .inr (he e (by simpa using hm) hb)

section
variable {perm : List Nat} {e0 : Env} {Hs : Heap} {tr : List Tr} {ef : Env} {Hf : Heap}

theorem Stat.at (S : Stat P σ n ops fl base N perm e0 Hs tr ef Hf) {i : Nat} (hi : i < ops.size) : ∃ X s Y, tr = X ++ s :: Y ∧ s.i = i := by
  have h1 := S.all i hi
  rw [← S.run.map_i] at h1
  obtain ⟨s, hs, rfl⟩ := List.mem_map.1 h1
  obtain ⟨X, Y, h2⟩ := List.append_of_mem hs
  exact ⟨X, s, Y, h2, rfl⟩

theorem Stat.perm_eq (S : Stat P σ n ops fl base N perm e0 Hs tr ef Hf) {X : List Tr} {s : Tr} {Y : List Tr} (he : tr = X ++ s :: Y) : perm = X.map (·.i) ++ s.i :: Y.map (·.i) := by
  rw [← S.run.map_i, he]; simp

theorem Stat.ne (S : Stat P σ n ops fl base N perm e0 Hs tr ef Hf) {X : List Tr} {s : Tr} {Y : List Tr} (he : tr = X ++ s :: Y) : (∀ p ∈ X, p.i ≠ s.i) ∧ ∀ q ∈ Y, q.i ≠ s.i := by
  constructor
  · intro p hp e
    obtain ⟨o, _, _, g, _⟩ := okOrder_spec perm [] S.ord (X.map (·.i)) s.i (Y.map (·.i)) (S.perm_eq he)
    exact g (by rw [← e]; exact List.mem_map.2 ⟨p, hp, rfl⟩)
  · intro q hq e
    obtain ⟨Y1, Y2, rfl⟩ := List.append_of_mem hq
    have he2 : tr = (X ++ s :: Y1) ++ q :: Y2 := by rw [he]; simp
    obtain ⟨o, _, _, g, _⟩ := okOrder_spec perm [] S.ord _ q.i _ (S.perm_eq he2)
    exact g (by rw [e]; simp)

theorem Stat.pair (S : Stat P σ n ops fl base N perm e0 Hs tr ef Hf) {X : List Tr} {s : Tr} {Y : List Tr} (he : tr = X ++ s :: Y) {p : Tr} (hp : p ∈ X) :
    (clash ops p.o s.o = true → ancB (Region.before ops) s.i p.i = true) ∧ (p.kd.isChain = true → s.kd.isChain = true → ancB (Region.before ops) s.i p.i = true) ∧ (p.kd.isFloat = true → s.kd.isChain = true → ancB (Region.before ops) s.i p.i = true) := by
  obtain ⟨o, h1, _, _, _, h2, _⟩ := okOrder_spec perm [] S.ord (X.map (·.i)) s.i (Y.map (·.i)) (S.perm_eq he)
  have hpair := h2 p.i (.inr (List.mem_map.2 ⟨p, hp, rfl⟩))
  obtain ⟨_, _, hso, hsk, _⟩ := S.run.split he
  obtain ⟨X1, X2, rfl⟩ := List.append_of_mem hp
  have he2 : tr = X1 ++ p :: (X2 ++ s :: Y) := by rw [he]; simp
  obtain ⟨_, _, hpo, hpk, _⟩ := S.run.split he2
  simp only [okPair, hso, hpo, Bool.and_eq_true, Bool.or_eq_true, Bool.not_eq_true'] at hpair
  obtain ⟨q1, q2⟩ := hpair
  rw [← hpk, ← hsk] at q2
  refine ⟨fun hc => ?_, fun h3 h4 => ?_, fun h3 h4 => ?_⟩
  · rcases q1 with q1 | q1
    · rw [hc] at q1; cases q1
    · exact q1
  · cases hpk' : p.kd <;> rw [hpk'] at h3 q2 <;> first | (cases h3; done) | skip
    cases hsk' : s.kd <;> rw [hsk'] at h4 q2 <;> first | (cases h4; done) | exact q2
  · cases hpk' : p.kd <;> rw [hpk'] at h3 q2 <;> first | (cases h3; done) | skip
    cases hsk' : s.kd <;> rw [hsk'] at h4 q2 <;> first | (cases h4; done) | exact q2

/-- what is done already, and what can't be, when an operation is carried out -/
theorem Stat.sides (S : Stat P σ n ops fl base N perm e0 Hs tr ef Hf) {L : Array Bool} (hd : Down ops (mm L)) {X : List Tr} {s : Tr} {Y : List Tr} (he : tr = X ++ s :: Y) (hu : mm L s.i = false)
    (hready : ∃ o, ops[s.i]? = some o ∧ ∀ e ∈ o.after.toList, Region.binds .any e = true → mm L e.on = true) :
    (∀ p, p ∈ X → ancB (Region.before ops) s.i p.i = true → mm L p.i = true) ∧ (∀ q, q ∈ Y → ancB (Region.before ops) q.i s.i = true → mm L q.i = false) := by
  constructor
  · intro p hp ha
    have hdown : ∀ j, (mm L j = true ∨ j = s.i) → ∃ o, ops[j]? = some o ∧ ∀ e ∈ o.after.toList, Region.binds .any e = true → (mm L e.on = true ∨ e.on = s.i) := by
      intro j hj
      rcases hj with hj | rfl
      · obtain ⟨o, h1, h2⟩ := hd j hj; exact ⟨o, h1, fun e he hb => .inl (h2 e he hb)⟩
      · obtain ⟨o, h1, h2⟩ := hready; exact ⟨o, h1, fun e he hb => .inl (h2 e he hb)⟩
    rcases before_sound (Mp := fun j => mm L j = true ∨ j = s.i) hdown s.i (.inr rfl) p.i ha with q | q
    · exact q
    · exact absurd q ((S.ne he).1 p hp)
  · intro q hq ha
    cases hm : mm L q.i with
    | false => rfl
    | true =>
      have := before_sound (Mp := fun j => mm L j = true) (fun j hj => hd j hj) q.i hm s.i ha
      rw [hu] at this; cases this

theorem clash_raw {x y : Oper} {t : Nat} (h1 : x.dst = some t) (h2 : t ∈ usesD ops y) : clash ops x y = true := by
  simp [clash, h1, h2]
theorem clash_war {x y : Oper} {t : Nat} (h1 : y.dst = some t) (h2 : t ∈ usesD ops x) : clash ops x y = true := by
  simp [clash, h1, h2]
theorem clash_waw {x y : Oper} {t : Nat} (h1 : x.dst = some t) (h2 : y.dst = some t) : clash ops x y = true := by
  simp [clash, h1, h2]

end
end Go.AM
