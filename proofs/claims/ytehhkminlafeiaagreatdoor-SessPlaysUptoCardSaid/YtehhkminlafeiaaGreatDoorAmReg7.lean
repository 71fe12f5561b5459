import Derived.Test.YtehhkminlafeiaaGreatDoorAmReg3
set_option linter.all false
/- Regions whose order is drawn: blocks that are laid early, orders, slots. -/
namespace Go.AM
open Go.RowKit (Below)
variable {P : Program} {N : Nat} {w₀ : World} {ρ : Ren} {H : Heap} {w : World} {σ : zp} {n : Nat} {ops : Array Oper} {fl : List Nat} {base : Nat}
theorem Heap.get_set_ne (H : Heap) (b : Nat) (x : Option Blk) {c : Nat} (h : c ≠ b) : (H.set b x).get c = H.get c := by
  unfold Heap.set Heap.get
  simp [List.getElem?_set_ne (fun e => h e.symm)]
def zcy (M : Nat → Bool) (base : Nat) : List Tr → Heap → Heap
  | [], G => G
  | s :: B, G => match s.kd with
    | .float j => if M s.i then zcy M base B (G.set (base + j) (s.H'.get (base + j))) else zcy M base B G
    | _ => zcy M base B G
theorem zg3 (M : Nat → Bool) : ∀ (B : List Tr) (G : Heap), (zcy M base B G).next = G.next
  | [], G => rfl
  | s :: B, G => by
    unfold zcy
    cases s.kd <;> simp only <;> try exact zg3 M B G
    split
    · rw [zg3 M B, Heap.next_set]
    · exact zg3 M B G
theorem zov (M : Nat → Bool) : ∀ (A B : List Tr) (G : Heap), zcy M base (A ++ B) G = zcy M base B (zcy M base A G)
  | [], B, G => rfl
  | s :: A, B, G => by
    simp only [List.cons_append, zcy]
    cases s.kd <;> simp only <;> try exact zov M A B G
    split <;> exact zov M A B _
theorem z6h (M : Nat → Bool) {b : Nat} : ∀ (B : List Tr) (G : Heap), (∀ s ∈ B, ∀ j, s.kd = .float j → M s.i = true → base + j ≠ b) → (zcy M base B G).get b = G.get b
  | [], G, _ => rfl
  | s :: B, G, h => by
    unfold zcy
    have hB := fun G => z6h M B G fun s hs => h s (by simp [hs])
    cases hk : s.kd <;> simp only <;> try exact hB G
    rename_i j
    split
    · rename_i hm
      rw [hB, Heap.get_set_ne]
      exact fun e => h s (by simp) j hk hm e.symm
    · exact hB G
theorem zlp (M M' : Nat → Bool) : ∀ (B : List Tr) (G : Heap), (∀ s ∈ B, ∀ j, s.kd = .float j → M s.i = M' s.i) → zcy M base B G = zcy M' base B G
  | [], G, _ => rfl
  | s :: B, G, h => by
    unfold zcy
    have hB := fun G => zlp M M' B G fun s hs => h s (by simp [hs])
    cases hk : s.kd <;> simp only <;> try exact hB G
    rename_i j
    rw [h s (by simp) j hk]
    split <;> exact hB _
theorem znp (M : Nat → Bool) : ∀ (B : List Tr) (G G' : Heap), (∀ s ∈ B, ∀ j, s.kd = .float j → base + j < G.next ∧ base + j < G'.next) → ∀ b,
    ((∃ s ∈ B, ∃ j, s.kd = .float j ∧ M s.i = true ∧ base + j = b) ∧ (zcy M base B G).get b = (zcy M base B G').get b) ∨ ((zcy M base B G).get b = G.get b ∧ (zcy M base B G').get b = G'.get b)
  | [], G, G', _, b => .inr ⟨rfl, rfl⟩
  | s :: B, G, G', h, b => by
    unfold zcy
    have hB := fun (G G' : Heap) (e : G.next = G.next) h' => znp M B G G' h' b
    have hrest : ∀ (G1 G1' : Heap), G1.next = G.next → G1'.next = G'.next → ∀ s ∈ B, ∀ j, s.kd = .float j → base + j < G1.next ∧ base + j < G1'.next := by
      intro G1 G1' e1 e2 s hs j hj
      rw [e1, e2]; exact h s (by simp [hs]) j hj
    have za : (((∃ s ∈ B, ∃ j, s.kd = .float j ∧ M s.i = true ∧ base + j = b) ∧ (zcy M base B G).get b = (zcy M base B G').get b) ∨ ((zcy M base B G).get b = G.get b ∧ (zcy M base B G').get b = G'.get b)) →
        (((∃ s' ∈ s :: B, ∃ j, s'.kd = .float j ∧ M s'.i = true ∧ base + j = b) ∧ (zcy M base B G).get b = (zcy M base B G').get b) ∨ ((zcy M base B G).get b = G.get b ∧ (zcy M base B G').get b = G'.get b)) := by
      rintro (⟨⟨s', hs', r⟩, q⟩ | q)
      · exact .inl ⟨⟨s', by simp [hs'], r⟩, q⟩
      · exact .inr q
    cases hk : s.kd <;> simp only <;> try exact za (znp M B G G' (hrest G G' rfl rfl) b)
    rename_i j
    split
    · rename_i hm
      have hlt := h s (by simp) j hk
      rcases znp M B (G.set (base + j) (s.H'.get (base + j))) (G'.set (base + j) (s.H'.get (base + j))) (hrest _ _ (Heap.next_set _ _ _) (Heap.next_set _ _ _)) b with ⟨⟨s', hs', r⟩, q⟩ | ⟨q1, q2⟩
      · exact .inl ⟨⟨s', by simp [hs'], r⟩, q⟩
      · by_cases hb : b = base + j
        · subst hb
          refine .inl ⟨⟨s, by simp, j, hk, hm, rfl⟩, ?_⟩
          rw [q1, q2, Heap.get_set _ _ _ _ hlt.1, Heap.get_set _ _ _ _ hlt.2]; simp
        · rw [Heap.get_set_ne _ _ _ hb] at q1
          rw [Heap.get_set_ne _ _ _ hb] at q2
          exact .inr ⟨q1, q2⟩
    · exact za (znp M B G G' (hrest G G' rfl rfl) b)
theorem Rel.congr {H' : Heap} (h : Rel N w₀ ρ H w) (hn : H'.next = H.next) (hg : ∀ b, H'.get b = H.get b) : Rel N w₀ ρ H' w :=
  ⟨h.below, h.big, fun b hb => h.dom b (by omega), h.base, fun b x hb => h.blk b x (by rw [← hg]; exact hb), fun b b' x x' L L' hb hb' => h.inj b b' x x' L L' (by rw [← hg]; exact hb) (by rw [← hg]; exact hb')⟩
theorem Rel.shrink {H' : Heap} (h : Rel N w₀ ρ H w) (hn : H'.next = H.next) (hg : ∀ b x, H'.get b = some x → H.get b = some x) : Rel N w₀ ρ H' w :=
  ⟨h.below, h.big, fun b hb => h.dom b (by omega), h.base, fun b x hb => h.blk b x (hg b x hb), fun b b' x x' L L' hb hb' => h.inj b b' x x' L L' (hg _ _ hb) (hg _ _ hb')⟩
theorem Ext.congr {ρ' : Ren} {K H' : Heap} {w' : World} (h : Ext ρ K w ρ' H w') (hn : H'.next = H.next) (hg : ∀ b, H'.get b = H.get b) : Ext ρ K w ρ' H' w' :=
  ⟨h.le, h.same, by rw [hn]; exact h.next, h.apart, fun b x L hb => h.old b x L (by rw [← hg]; exact hb)⟩
theorem zb3p {M : Nat → Bool} {B : List Tr} {G G' : Heap} {ρ' : Ren} {w' : World} (hA : Rel N w₀ ρ (zcy M base B G) w) (hR : Rel N w₀ ρ' G' w') (hE : Ext ρ G w ρ' G' w')
    (hfree : ∀ s ∈ B, ∀ j, s.kd = .float j → G.get (base + j) = none ∧ base + j < G.next ∧ G'.get (base + j) = none) :
    Rel N w₀ ρ' (zcy M base B G') w' ∧ Ext ρ (zcy M base B G) w ρ' (zcy M base B G') w' := by
  have hboth := znp M B G G' fun s hs j hj => ⟨(hfree s hs j hj).2.1, Nat.lt_of_lt_of_le (hfree s hs j hj).2.1 hE.next⟩
  have hn1 := zg3 (base := base) M B G
  have hn2 := zg3 (base := base) M B G'
  have hGA : ∀ b x, G.get b = some x → (zcy M base B G).get b = some x := by
    intro b x hb
    rcases hboth b with ⟨⟨s, hs, j, hj, _, rfl⟩, _⟩ | ⟨q, _⟩
    · rw [(hfree s hs j hj).1] at hb; cases hb
    · rw [q]; exact hb
  have hG'A : ∀ b x, G'.get b = some x → (zcy M base B G').get b = some x := by
    intro b x hb
    rcases hboth b with ⟨⟨s, hs, j, hj, _, rfl⟩, _⟩ | ⟨_, q⟩
    · rw [(hfree s hs j hj).2.2] at hb; cases hb
    · rw [q]; exact hb
  have hkind : ∀ b x, (zcy M base B G').get b = some x → ((zcy M base B G).get b = some x ∧ G.get b = none ∧ b < G.next) ∨ G'.get b = some x := by
    intro b x hb
    rcases hboth b with ⟨⟨s, hs, j, hj, _, rfl⟩, q⟩ | ⟨_, q⟩
    · exact .inl ⟨by rw [q]; exact hb, (hfree s hs j hj).1, (hfree s hs j hj).2.1⟩
    · exact .inr (by rw [← q]; exact hb)
  have hfl : ∀ b x L, (zcy M base B G).get b = some x → G.get b = none → ρ b = some L → ∀ b0 x0 L0, G.get b0 = some x0 → ρ b0 = some L0 → L0.blk ≠ L.blk := by
    intro b x L hb hn hL b0 x0 L0 hb0 hL0
    exact hA.inj b0 b x0 x L0 L (hGA _ _ hb0) hb (fun e => by rw [e, hn] at hb0; cases hb0) hL0 hL
  refine ⟨⟨hR.below, hR.big, fun b hb => hR.dom b (by omega), hR.base, fun b x hb => ?_, fun b b' x x' L L' hb hb' hne hL hL' => ?_⟩, ⟨hE.le, fun b hb => hE.same b (by omega), by rw [hn1, hn2]; exact hE.next, ⟨hE.apart.1, fun c hc hn => hE.apart.2 c hc fun b x L hb hL => hn b x L (hGA _ _ hb) hL⟩, fun b x L hb hL => ?_⟩⟩
  · rcases hkind b x hb with ⟨h1, h2, h3⟩ | h1
    · obtain ⟨L, hL, hr⟩ := hA.blk b x h1
      refine ⟨L, by rw [hE.same b h3]; exact hL, hr.mono hE.le (hE.apart.2 _ (hA.lt h1 hL) fun b0 x0 L0 hb0 hL0 => hfl b x L h1 h2 hL b0 x0 L0 hb0 hL0)⟩
    · exact hR.blk b x h1
  · rcases hkind b x hb with ⟨h1, h2, h3⟩ | h1 <;> rcases hkind b' x' hb' with ⟨g1, g2, g3⟩ | g1
    · rw [hE.same b h3] at hL; rw [hE.same b' g3] at hL'
      exact hA.inj b b' x x' L L' h1 g1 hne hL hL'
    · rw [hE.same b h3] at hL
      rcases hE.old b' x' L' g1 hL' with q | ⟨b0, x0, L0, q1, q2, q3⟩
      · have := hA.lt h1 hL; omega
      · rw [← q3]; exact fun e => hfl b x L h1 h2 hL b0 x0 L0 q1 q2 e.symm
    · rw [hE.same b' g3] at hL'
      rcases hE.old b x L h1 hL with q | ⟨b0, x0, L0, q1, q2, q3⟩
      · have := hA.lt g1 hL'; omega
      · rw [← q3]; exact fun e => hfl b' x' L' g1 g2 hL' b0 x0 L0 q1 q2 e
    · exact hR.inj b b' x x' L L' h1 g1 hne hL hL'
  · rcases hkind b x hb with ⟨h1, h2, h3⟩ | h1
    · rw [hE.same b h3] at hL; exact .inr ⟨b, x, L, h1, hL, rfl⟩
    · rcases hE.old b x L h1 hL with q | ⟨b0, x0, L0, q1, q2, q3⟩
      · exact .inl q
      · exact .inr ⟨b0, x0, L0, hGA _ _ q1, q2, q3⟩
theorem zbic (Mp : Nat → Prop) (acc : Array Nat) (hacc : ∀ j, Mp j → ∀ i, (acc.getD j 0).testBit i = true → Mp i) : ∀ (es : List Edge) (s : Nat), (∀ i, s.testBit i = true → Mp i) → (∀ e ∈ es, Region.binds .any e = true → Mp e.on) →
    ∀ i, (es.foldl (fun s e => if Region.binds .any e then s ||| 2 ^ e.on ||| acc.getD e.on 0 else s) s).testBit i = true → Mp i
  | [], s, hs, _ => hs
  | e :: es, s, hs, he => by
    simp only [List.foldl_cons]
    refine zbic Mp acc hacc es _ (fun i hi => ?_) fun e' h' => he e' (by simp [h'])
    split at hi
    · rename_i hb
      have hon := he e (by simp) hb
      simp only [Nat.testBit_or, Bool.or_eq_true, Nat.testBit_two_pow, decide_eq_true_eq] at hi
      rcases hi with (hi | hi) | hi
      · exact hs i hi
      · subst hi; exact hon
      · exact hacc e.on hon i hi
    · exact hs i hi
theorem zwl {Mp : Nat → Prop} (down : ∀ j, Mp j → ∃ o, ops[j]? = some o ∧ ∀ e ∈ o.after.toList, Region.binds .any e = true → Mp e.on) : ∀ j, Mp j → ∀ i, ancB (Region.before ops) j i = true → Mp i := by
  have key : ∀ (l : List Oper) (acc : Array Nat), (∀ j, l[j]? = ops[acc.size + j]?) → (∀ j, Mp j → ∀ i, (acc.getD j 0).testBit i = true → Mp i) →
      ∀ j, Mp j → ∀ i, ((l.foldl (fun (acc : Array Nat) (o : Oper) => acc.push (o.after.foldl (fun s e => if Region.binds .any e then s ||| 2 ^ e.on ||| acc.getD e.on 0 else s) 0)) acc).getD j 0).testBit i = true → Mp i := by
    intro l
    induction l with
    | nil => intro acc _ h; exact h
    | cons o l ih =>
      intro acc hl h
      simp only [List.foldl_cons]
      refine ih _ (fun j => ?_) fun j hj i hi => ?_
      · have := hl (j + 1)
        simp only [List.getElem?_cons_succ] at this
        rw [this, Array.size_push]; congr 1; omega
      · rw [Array.getD_eq_getD_getElem?, Array.getElem?_push] at hi
        split at hi
        · rename_i hjs
          simp only [Option.getD_some] at hi
          obtain ⟨o', ho', he⟩ := down j hj
          have h0 := hl 0
          simp only [List.getElem?_cons_zero, Nat.add_zero] at h0
          rw [hjs, ← h0] at ho'; cases ho'
          rw [← Array.foldl_toList] at hi
          exact zbic Mp acc h o.after.toList 0 (by simp) he i hi
        · rw [← Array.getD_eq_getD_getElem?] at hi
          exact h j hj i hi
  intro j hj i hi
  unfold ancB Region.before at hi
  rw [← Array.foldl_toList] at hi
  exact key ops.toList #[] (fun j => by simp) (by simp) j hj i hi
theorem zr7 {bf : Array Nat} : ∀ (perm done : List Nat), zbbp P ops bf fl done perm = true → ∀ X j Y, perm = X ++ j :: Y →
    ∃ o, ops[j]? = some o ∧ j ∉ done ∧ j ∉ X ∧ (∀ e ∈ o.after.toList, Region.binds .any e = true → e.on ∈ done ∨ e.on ∈ X) ∧ (∀ i, i ∈ done ∨ i ∈ X → zbrw P ops bf fl i j = true) ∧ (∀ cs b, o.op ≠ .select cs b)
  | [], done, h, X, j, Y, he => by cases X <;> simp at he
  | i :: rest, done, h, X, j, Y, he => by
    simp only [zbbp] at h
    cases ho : ops[i]? with
    | none => rw [ho] at h; cases h
    | some o =>
      rw [ho] at h
      simp only [Bool.and_eq_true, Bool.not_eq_true', List.all_eq_true, Bool.or_eq_true] at h
      obtain ⟨⟨⟨⟨h1, h2⟩, h3⟩, h4⟩, h5⟩ := h
      cases X with
      | nil =>
        simp only [List.nil_append, List.cons.injEq] at he
        obtain ⟨rfl, rfl⟩ := he
        refine ⟨o, ho, by simpa using h1, by simp, fun e he hb => ?_, fun i hi => ?_, fun cs b hs => ?_⟩
        · rcases h2 e he with q | q
          · rw [hb] at q; cases q
          · exact .inl (by simpa using q)
        · rcases hi with hi | hi
          · exact h4 i hi
          · simp at hi
        · rw [hs] at h3; cases h3
      | cons x X =>
        simp only [List.cons_append, List.cons.injEq] at he
        obtain ⟨rfl, rfl⟩ := he
        obtain ⟨o', g1, g2, g3, g4, g5, g6⟩ := zr7 _ _ h5 X j Y rfl
        refine ⟨o', g1, fun q => g2 (by simp [q]), fun q => ?_, fun e he hb => ?_, fun i' hi => ?_, g6⟩
        · rcases List.mem_cons.1 q with q | q
          · exact g2 (by simp [q])
          · exact g3 q
        · rcases g4 e he hb with q | q
          · rcases List.mem_cons.1 q with q | q
            · exact .inr (by simp [q])
            · exact .inl q
          · exact .inr (by simp [q])
        · rcases hi with hi | hi
          · exact g5 i' (.inl (by simp [hi]))
          · rcases List.mem_cons.1 hi with hi | hi
            · exact g5 i' (.inl (by simp [hi]))
            · exact g5 i' (.inr hi)
def zgr (n : Nat) (M : Nat → Bool) : List Tr → Env → Env
  | [], e => e
  | s :: r, e => zgr n M r (if M s.i then e.put n s.o.dst s.v else e)
theorem z8k {e : Env} {d : Option Nat} {v : V} {t : Nat} (h : d ≠ some t) : e.put n d v t = e t := by
  cases d with
  | none => rfl
  | some d =>
    simp only [Env.put]
    cases hb : Nat.blt d n with
    | false => simp only [cond_false]
    | true =>
      have hq : Nat.beq t d = false := zblr (fun q => h (by rw [q]))
      simp only [cond_true, hq, cond_false]
theorem zbid {e e' : Env} {d : Option Nat} {v : V} {t : Nat} (h : e t = e' t) : e.put n d v t = e'.put n d v t := by
  cases d with
  | none => exact h
  | some d =>
    simp only [Env.put]
    cases hb : Nat.blt d n with
    | false => simpa using h
    | true => simp only [cond_true, h]
theorem z3x (M : Nat → Bool) : ∀ (A B : List Tr) (e : Env), zgr n M (A ++ B) e = zgr n M B (zgr n M A e)
  | [], B, e => rfl
  | s :: A, B, e => z3x M A B _
theorem zbet (M : Nat → Bool) {t : Nat} : ∀ (X : List Tr) (e e' : Env), (∀ p ∈ X, p.o.dst = some t → M p.i = true) → e t = e' t → zgr n M X e t = z6g n X e' t
  | [], e, e', _, h => h
  | s :: X, e, e', hX, h => by
    simp only [zgr, z6g]
    refine zbet M X _ _ (fun p hp => hX p (by simp [hp])) ?_
    split
    · exact zbid h
    · rename_i hm
      rw [z8k fun q => hm (hX s (by simp) q)]; exact h
theorem zbb4 (M : Nat → Bool) {t : Nat} : ∀ (Y : List Tr) (e : Env), (∀ p ∈ Y, p.o.dst = some t → M p.i = false) → zgr n M Y e t = e t
  | [], e, _ => rfl
  | s :: Y, e, h => by
    simp only [zgr]
    rw [zbb4 M Y _ fun p hp => h p (by simp [hp])]
    split
    · rename_i hm; rw [z8k fun q => by rw [h s (by simp) q] at hm; cases hm]
    · rfl
theorem zbps (M : Nat → Bool) {t : Nat} : ∀ (Y : List Tr) (e e' : Env), e t = e' t → zgr n M Y e t = zgr n M Y e' t
  | [], _, _, h => h
  | s :: Y, e, e', h => by
    simp only [zgr]
    refine zbps M Y _ _ ?_
    split
    · exact zbid h
    · exact h
theorem z8l (M M' : Nat → Bool) : ∀ (Y : List Tr) (e : Env), (∀ p ∈ Y, M p.i = M' p.i) → zgr n M Y e = zgr n M' Y e
  | [], _, _ => rfl
  | s :: Y, e, h => by
    simp only [zgr]
    rw [h s (by simp), z8l M M' Y _ fun p hp => h p (by simp [hp])]
theorem zbxm (M : Nat → Bool) {d : Option Nat} {v : V} (Y : List Tr) (e : Env) (h : ∀ p ∈ Y, M p.i = true → ∀ t, d = some t → p.o.dst ≠ some t) (t : Nat) : zgr n M Y (e.put n d v) t = (zgr n M Y e).put n d v t := by
  cases d with
  | none => rfl
  | some d =>
    by_cases ht : t = d
    · subst ht
      rw [zbb4 M Y _ fun p hp hd => by
        cases hm : M p.i with
        | false => rfl
        | true => exact absurd hd (h p hp hm t rfl)]
      refine zbid ?_
      rw [zbb4 M Y _ fun p hp hd => by
        cases hm : M p.i with
        | false => rfl
        | true => exact absurd hd (h p hp hm t rfl)]
    · rw [z8k (fun q => ht (by cases q; rfl))]
      exact zbps M Y _ _ (z8k (fun q => ht (by cases q; rfl)))
end Go.AM

/- Regions whose order is drawn: whatever order is drawn, what the run in one order says holds. -/
namespace Go.AM
open Go.RowKit (Below)
variable {P : Program} {N : Nat} {w₀ : World} {ρ : Ren} {H : Heap} {w : World} {σ : zp} {n : Nat} {ops : Array Oper} {fl : List Nat} {base : Nat}
theorem zblu : ∀ (l : List Nat) {a b j : Nat}, zz1 l a = some j → zz1 l b = some j → a = b
  | [], a, b, j, h, _ => by simp [zz1] at h
  | x :: xs, a, b, j, h, g => by
    simp only [zz1] at h g
    cases ha : Nat.beq x a with
    | true =>
      cases hb : Nat.beq x b with
      | true => rw [← Nat.eq_of_beq_eq_true ha, ← Nat.eq_of_beq_eq_true hb]
      | false =>
        rw [ha] at h; rw [hb] at g
        simp only [cond_true, cond_false] at h g
        cases h
        split at g <;> cases g
    | false =>
      rw [ha] at h
      simp only [cond_false] at h
      split at h
      · rename_i j' hj'; cases h
        cases hb : Nat.beq x b with
        | true => rw [hb] at g; simp at g
        | false =>
          rw [hb] at g
          simp only [cond_false] at g
          split at g
          · rename_i j2 hj2; cases g; exact zblu xs hj' hj2
          · cases g
      · cases h
theorem zbb5 {i j : Nat} (hj : zz1 fl i = some j) : ∀ (l : List Nat), i ∈ l → base + j ∈ kept fl base l
  | [], h => by simp at h
  | x :: xs, h => by
    simp only [kept]
    rcases List.mem_cons.1 h with rfl | h
    · rw [hj]; simp
    · have := zbb5 hj xs h
      split <;> simp [this]
theorem zu4 {H : Heap} {b : Nat} : ∀ (l : List Nat), zej H l = true → b ∈ l → H.get b = none ∧ b < H.next
  | [], _, h => by simp at h
  | x :: xs, hf, h => by
    simp only [zej, Bool.and_eq_true] at hf
    rcases List.mem_cons.1 h with rfl | h
    · have := hf.1
      split at this
      · rename_i hn; exact ⟨hn, Nat.blt_eq.mp this⟩
      · cases this
    · exact zu4 xs hf.2 h
theorem z6i {P : Program} {i : Nat} {o : Oper} {j : Nat} (h : zfm P fl i o = .float j) : zz1 fl i = some j := by
  unfold zfm at h; split at h
  · cases h; assumption
  · split at h <;> cases h
theorem zbxn {P : Program} {i : Nat} {o : Oper} (h : zfm P fl i o = .quiet) : cls P o.op = .mv ∨ cls P o.op = .pure := by
  unfold zfm at h; split at h
  · cases h
  · split at h <;> first | (left; assumption) | (right; assumption) | cases h
theorem zbty {P : Program} {i : Nat} {o : Oper} (h : zfm P fl i o = .read) : cls P o.op = .read := by
  unfold zfm at h; split at h
  · cases h
  · split at h <;> first | assumption | cases h
theorem zbpt {perm : List Nat} {e ef : Env} {Hs Hf : Heap} {tr : List Tr} (h : Run P σ n ops fl base perm e Hs tr ef Hf) : ∀ (V0 : Heap) (D0 : List Tr), Hs = zcy (fun _ => true) base D0 V0 →
    (∀ X s Y, tr = X ++ s :: Y → s.H = zcy (fun _ => true) base (if cnt X = 0 then D0 ++ X else after (cnt X) X) (zcx (cnt X) V0 tr)) ∧
    Hf = zcy (fun _ => true) base (if cnt tr = 0 then D0 ++ tr else after (cnt tr) tr) (zcx (cnt tr) V0 tr) := by
  induction h with
  | nil => intro V0 D0 hH; exact ⟨fun X s Y he => by cases X <;> simp at he, by simpa [cnt, zcx] using hH⟩
  | @cons i rest e H o v H' tr ef Hf h1 h2 h3 h4 ih =>
    intro V0 D0 hH
    have plain : (zfm P fl i o).isChain = false → H' = zcy (fun _ => true) base (D0 ++ [⟨i, o, zfm P fl i o, e, H, v, H'⟩]) V0 →
        (∀ X s Y, (⟨i, o, zfm P fl i o, e, H, v, H'⟩ : Tr) :: tr = X ++ s :: Y → s.H = zcy (fun _ => true) base (if cnt X = 0 then D0 ++ X else after (cnt X) X) (zcx (cnt X) V0 (⟨i, o, zfm P fl i o, e, H, v, H'⟩ :: tr))) ∧
        Hf = zcy (fun _ => true) base (if cnt ((⟨i, o, zfm P fl i o, e, H, v, H'⟩ : Tr) :: tr) = 0 then D0 ++ (⟨i, o, zfm P fl i o, e, H, v, H'⟩ :: tr) else after (cnt ((⟨i, o, zfm P fl i o, e, H, v, H'⟩ : Tr) :: tr)) (⟨i, o, zfm P fl i o, e, H, v, H'⟩ :: tr)) (zcx (cnt ((⟨i, o, zfm P fl i o, e, H, v, H'⟩ : Tr) :: tr)) V0 (⟨i, o, zfm P fl i o, e, H, v, H'⟩ :: tr)) := by
      intro hc hH'
      obtain ⟨g1, g2⟩ := ih V0 (D0 ++ [⟨i, o, zfm P fl i o, e, H, v, H'⟩]) hH'
      have hver : ∀ k, zcx k V0 ((⟨i, o, zfm P fl i o, e, H, v, H'⟩ : Tr) :: tr) = zcx k V0 tr := by
        intro k; cases k with
        | zero => simp [zcx]
        | succ k => simp [zcx, hc]
      have haft : ∀ k X, k ≠ 0 → after k ((⟨i, o, zfm P fl i o, e, H, v, H'⟩ : Tr) :: X) = after k X := by
        intro k X hk; cases k with
        | zero => exact absurd rfl hk
        | succ k => simp [after, hc]
      have hcnt : ∀ X, cnt ((⟨i, o, zfm P fl i o, e, H, v, H'⟩ : Tr) :: X) = cnt X := by intro X; simp [cnt, hc]
      refine ⟨fun X s Y he => ?_, ?_⟩
      · cases X with
        | nil =>
          simp only [List.nil_append, List.cons.injEq] at he
          obtain ⟨rfl, rfl⟩ := he
          simpa [cnt, zcx] using hH
        | cons x X =>
          simp only [List.cons_append, List.cons.injEq] at he
          obtain ⟨rfl, rfl⟩ := he
          rw [g1 X s Y rfl, hcnt, hver]
          by_cases hz : cnt X = 0
          · rw [if_pos hz, if_pos hz]; simp
          · rw [if_neg hz, if_neg hz, haft _ _ hz]
      · rw [g2, hcnt, hver]
        by_cases hz : cnt tr = 0
        · rw [if_pos hz, if_pos hz]; simp
        · rw [if_neg hz, if_neg hz, haft _ _ hz]
    have setLast : ∀ s : Tr, zcy (fun _ => true) base (D0 ++ [s]) V0 = (match s.kd with | .float j => H.set (base + j) (s.H'.get (base + j)) | _ => H) := by
      intro s
      rw [zov, ← hH]
      unfold zcy
      cases s.kd <;> rfl
    cases hk : zfm P fl i o with
    | quiet =>
      rw [hk] at h2 plain
      obtain ⟨rfl, _⟩ := zbes (zbxn hk) h2
      exact plain rfl (by rw [setLast])
    | read =>
      rw [hk] at h2 plain
      have := zbpp (zbty hk) h2; subst this
      exact plain rfl (by rw [setLast])
    | float j =>
      rw [hk] at h2 plain
      obtain ⟨_, _, x, v0, _, _, q1, q2, rfl⟩ := h2
      refine plain rfl ?_
      rw [setLast]
      simp only [Heap.get_set _ _ _ _ q2, if_true]
    | chain =>
      obtain ⟨g1, g2⟩ := ih H' [] rfl
      refine ⟨fun X s Y he => ?_, ?_⟩
      · cases X with
        | nil =>
          simp only [List.nil_append, List.cons.injEq] at he
          obtain ⟨rfl, rfl⟩ := he
          simpa [cnt, zcx] using hH
        | cons x X =>
          simp only [List.cons_append, List.cons.injEq] at he
          obtain ⟨rfl, rfl⟩ := he
          rw [g1 X s Y rfl]
          simp only [cnt, KD.isChain, if_true, List.nil_append]
          have e1 : ¬ (1 + cnt X = 0) := by omega
          rw [if_neg e1, show 1 + cnt X = cnt X + 1 by omega]
          simp only [zcx, after, KD.isChain, if_true]
          by_cases hz : cnt X = 0
          · rw [if_pos hz, hz]; simp [after]
          · rw [if_neg hz]
      · rw [g2]
        simp only [cnt, KD.isChain, if_true, List.nil_append]
        have e1 : ¬ (1 + cnt tr = 0) := by omega
        rw [if_neg e1, show 1 + cnt tr = cnt tr + 1 by omega]
        simp only [zcx, after, KD.isChain, if_true]
        by_cases hz : cnt tr = 0
        · rw [if_pos hz, hz]; simp [after]
        · rw [if_neg hz]
theorem zbvh {perm : List Nat} {e ef : Env} {Hs Hf : Heap} {tr : List Tr} (h : Run P σ n ops fl base perm e Hs tr ef Hf) : ∀ (V : Heap) (X : List Tr) (s : Tr) (Y : List Tr) (j k : Nat), tr = X ++ s :: Y → s.kd = .float j → k + 1 ≤ cnt X →
    (zcx (k + 1) V tr).get (base + j) = none ∧ base + j < (zcx (k + 1) V tr).next := by
  induction h with
  | nil => intro V X s Y j k he; cases X <;> simp at he
  | @cons i rest e H o v H' tr ef Hf h1 h2 h3 h4 ih =>
    intro V X s Y j k he hs hk
    cases X with
    | nil => simp [cnt] at hk
    | cons x X =>
      simp only [List.cons_append, List.cons.injEq] at he
      obtain ⟨rfl, rfl⟩ := he
      simp only [cnt] at hk
      cases hc : (zfm P fl i o).isChain with
      | true =>
        simp only [hc, if_true] at hk
        simp only [zcx, hc, if_true]
        cases k with
        | zero =>
          simp only [zcx]
          have hkd : zfm P fl i o = .chain := by cases hq : zfm P fl i o <;> rw [hq] at hc <;> first | rfl | cases hc
          rw [hkd] at h3
          simp only [zxp, Bool.and_eq_true] at h3
          have hmem : s.i ∈ rest := by rw [← h4.map_i]; simp
          have hidx : zz1 fl s.i = some j := by
            obtain ⟨_, _, _, q, _⟩ := h4.split rfl
            rw [hs] at q; exact z6i q.symm
          exact zu4 _ h3.2 (zbb5 hidx rest hmem)
        | succ k => exact ih H' X s Y j k rfl hs (by omega)
      | false =>
        simp only [hc, Bool.false_eq_true, if_false, Nat.zero_add] at hk
        simp only [zcx, hc, Bool.false_eq_true, if_false]
        exact ih V X s Y j k rfl hs hk
theorem zbxo {perm : List Nat} {e ef : Env} {Hs Hf : Heap} {tr : List Tr} (h : Run P σ n ops fl base perm e Hs tr ef Hf) (hf : zej Hs (kept fl base perm) = true) {X : List Tr} {s : Tr} {Y : List Tr} {j k : Nat} (he : tr = X ++ s :: Y) (hs : s.kd = .float j) (hk : k ≤ cnt X) :
    (zcx k Hs tr).get (base + j) = none ∧ base + j < (zcx k Hs tr).next := by
  cases k with
  | zero =>
    simp only [zcx]
    have hmem : s.i ∈ perm := by rw [← h.map_i, he]; simp
    obtain ⟨_, _, _, q, _⟩ := h.split he
    rw [hs] at q
    exact zu4 _ hf (zbb5 (z6i q.symm) perm hmem)
  | succ k => exact zbvh h Hs X s Y j k he hs hk
theorem z6j : ∀ (X : List Tr) (k : Nat), k < cnt X → ∃ X1 p X2, X = X1 ++ p :: X2 ∧ p.kd.isChain = true ∧ cnt X1 = k
  | [], k, h => by simp [cnt] at h
  | x :: X, k, h => by
    simp only [cnt] at h
    cases hc : x.kd.isChain with
    | true =>
      cases k with
      | zero => exact ⟨[], x, X, rfl, hc, rfl⟩
      | succ k =>
        simp only [hc, if_true] at h
        obtain ⟨X1, p, X2, h1, h2, h3⟩ := z6j X k (by omega)
        exact ⟨x :: X1, p, X2, by simp [h1], h2, by simp [cnt, hc, h3]; omega⟩
    | false =>
      simp only [hc, Bool.false_eq_true, if_false, Nat.zero_add] at h
      obtain ⟨X1, p, X2, h1, h2, h3⟩ := z6j X k h
      exact ⟨x :: X1, p, X2, by simp [h1], h2, by simp [cnt, hc, h3]⟩
theorem zz5 : ∀ (tr : List Tr) (j c : Nat), (zz2 tr)[j]? = some c → ∃ X s Y, tr = X ++ s :: Y ∧ s.kd.isChain = true ∧ cnt X = j ∧ s.i = c
  | [], j, c, h => by simp [zz2] at h
  | x :: tr, j, c, h => by
    simp only [zz2] at h
    cases hc : x.kd.isChain with
    | true =>
      rw [hc] at h
      simp only [cond_true] at h
      cases j with
      | zero => simp at h; exact ⟨[], x, tr, rfl, hc, rfl, h⟩
      | succ j =>
        obtain ⟨X, s, Y, h1, h2, h3, h4⟩ := zz5 tr j c (by simpa using h)
        exact ⟨x :: X, s, Y, by simp [h1], h2, by simp [cnt, hc, h3]; omega, h4⟩
    | false =>
      rw [hc] at h
      obtain ⟨X, s, Y, h1, h2, h3, h4⟩ := zz5 tr j c h
      exact ⟨x :: X, s, Y, by simp [h1], h2, by simp [cnt, hc, h3], h4⟩
theorem zbb6 : ∀ (X : List Tr) (k : Nat) (Z : List Tr), k ≤ cnt X → after k (X ++ Z) = after k X ++ Z
  | X, 0, Z, _ => by simp [after]
  | [], k + 1, Z, h => by simp [cnt] at h
  | x :: X, k + 1, Z, h => by
    simp only [cnt] at h
    cases hc : x.kd.isChain with
    | true => simp only [hc, if_true] at h; simp only [List.cons_append, after, hc, if_true]; exact zbb6 X k Z (by omega)
    | false => simp only [hc, Bool.false_eq_true, if_false, Nat.zero_add] at h; simp only [List.cons_append, after, hc, Bool.false_eq_true, if_false]; exact zbb6 X (k + 1) Z h
theorem zly : ∀ (k : Nat) (tr : List Tr), k ≤ cnt tr → ∃ X, tr = X ++ after k tr ∧ k ≤ cnt X
  | 0, tr, _ => ⟨[], by simp [after], by simp⟩
  | k + 1, [], h => by simp [cnt] at h
  | k + 1, x :: tr, h => by
    simp only [cnt] at h
    cases hc : x.kd.isChain with
    | true =>
      simp only [hc, if_true] at h
      obtain ⟨X, h1, h2⟩ := zly k tr (by omega)
      refine ⟨x :: X, ?_, by simp [cnt, hc]; omega⟩
      simp only [after, hc, if_true, List.cons_append]; rw [← h1]
    | false =>
      simp only [hc, Bool.false_eq_true, if_false, Nat.zero_add] at h
      obtain ⟨X, h1, h2⟩ := zly (k + 1) tr h
      refine ⟨x :: X, ?_, by simp [cnt, hc]; omega⟩
      simp only [after, hc, Bool.false_eq_true, if_false, List.cons_append]; rw [← h1]
end Go.AM

/- Regions whose order is drawn: the theorem. -/
namespace Go.AM
open Go.RowKit (Below)
variable {P : Program} {N : Nat} {w₀ : World} {ρ : Ren} {H : Heap} {w : World} {σ : zp} {n : Nat} {ops : Array Oper} {fl : List Nat} {base : Nat}
structure Stat (P : Program) (σ : zp) (n : Nat) (ops : Array Oper) (fl : List Nat) (base N : Nat) (perm : List Nat) (e0 : Env) (Hs : Heap) (tr : List Tr) (ef : Env) (Hf : Heap) : Prop where
  hσ : zlx P σ
  hG : P.globals.size ≤ N
  run : Run P σ n ops fl base perm e0 Hs tr ef Hf
  ord : zbbp P ops (Region.before ops) fl [] perm = true
  all : ∀ i, i < ops.size → i ∈ perm
  rd : z56 P ops fl true perm = true
  chk : ∀ X s Y, tr = X ++ s :: Y → s.kd.isRead = true → ∀ k HH, (Hs :: z8g tr)[k]? = some HH → k ≠ cnt X → z3p (Region.before ops) (zz2 tr) s.i k = true → AM.chk (gdM P σ ops s.o s.env) HH s.v = true
  free : zej Hs (kept fl base perm) = true
abbrev mm (L : Array Bool) : Nat → Bool := fun i => L.getD i false
def Down (ops : Array Oper) (M : Nat → Bool) : Prop := ∀ i, M i = true → ∃ o, ops[i]? = some o ∧ ∀ e ∈ o.after.toList, Region.binds .any e = true → M e.on = true
structure Inv (n : Nat) (ops : Array Oper) (base N : Nat) (w₀ : World) (e0 : Env) (Hs : Heap) (tr : List Tr) (ρS : Ren) (HS : Heap) (wS : World) (aS : Act) (L : Array Bool) (a : Act) (w : World) (ρ : Ren) (k : Nat) : Prop where
  size : L.size = ops.size
  down : Down ops (mm L)
  kle : k ≤ cnt tr
  chain : ∀ X s Y, tr = X ++ s :: Y → s.kd.isChain = true → (mm L s.i = true ↔ cnt X < k)
  rel : Rel N w₀ ρ (zcy (mm L) base (after k tr) (zcx k Hs tr)) w
  env : EnvRel n ρ (zgr n (mm L) tr e0) a
  ext : Ext ρS HS wS ρ (zcy (mm L) base (after k tr) (zcx k Hs tr)) w
  free : ∀ X s Y j, tr = X ++ s :: Y → s.kd = .float j → mm L s.i = false → ρ (base + j) = none
  defers : a.defers = aS.defers
theorem zb2e (L : Array Bool) (i j : Nat) (hi : i < L.size) : mm (L.setIfInBounds i true) j = (if j = i then true else mm L j) := by
  unfold mm
  rw [Array.getD_eq_getD_getElem?, Array.getElem?_setIfInBounds, Array.getD_eq_getD_getElem?]
  by_cases h : i = j
  · subst h; simp [hi]
  · rw [if_neg h, if_neg (fun e => h e.symm)]
theorem zbax {L : Array Bool} {i : Nat} (hsz : L.size = ops.size) (h : i ∈ Region.ready .any ops L) : i < ops.size ∧ mm L i = false ∧ ∃ o, ops[i]? = some o ∧ ∀ e ∈ o.after.toList, Region.binds .any e = true → mm L e.on = true := by
  simp only [Region.ready, List.mem_filter, List.mem_range, Bool.and_eq_true, Bool.not_eq_true'] at h
  obtain ⟨h1, h2, h3⟩ := h
  have hL : i < L.size := by omega
  refine ⟨h1, by simpa [mm, hL] using h2, ops[i], by simp [h1], fun e he hb => ?_⟩
  simp only [Array.getElem?_eq_getElem h1, Option.map_some, Option.getD_some, Array.all_eq_true_iff_forall_mem, Bool.or_eq_true, Bool.not_eq_true'] at h3
  rcases h3 e (by simpa using he) with q | q
  · rw [hb] at q; cases q
  · exact q
theorem zbxp {L : Array Bool} {i : Nat} (hsz : L.size = ops.size) {o : Oper} (ho : ops[i]? = some o) (hu : mm L i = false) (he : ∀ e ∈ o.after.toList, Region.binds .any e = true → mm L e.on = true) : i ∈ Region.ready .any ops L := by
  have h1 : i < ops.size := by
    rcases Nat.lt_or_ge i ops.size with q | q
    · exact q
    · simp [Array.getElem?_eq_none q] at ho
  have hL : i < L.size := by omega
  simp only [Region.ready, List.mem_filter, List.mem_range, Bool.and_eq_true, Bool.not_eq_true']
  refine ⟨h1, by simpa [mm, hL] using hu, ?_⟩
  simp only [ho, Option.map_some, Option.getD_some, Array.all_eq_true_iff_forall_mem, Bool.or_eq_true, Bool.not_eq_true']
  intro e hm
  cases hb : Region.binds .any e with
  | false => exact .inl rfl
  | true => exact .inr (he e (by simpa using hm) hb)
section
variable {perm : List Nat} {e0 : Env} {Hs : Heap} {tr : List Tr} {ef : Env} {Hf : Heap}
theorem Stat.at (S : Stat P σ n ops fl base N perm e0 Hs tr ef Hf) {i : Nat} (hi : i < ops.size) : ∃ X s Y, tr = X ++ s :: Y ∧ s.i = i := by
  have h1 := S.all i hi
  rw [← S.run.map_i] at h1
  obtain ⟨s, hs, rfl⟩ := List.mem_map.1 h1
  obtain ⟨X, Y, h2⟩ := List.append_of_mem hs
  exact ⟨X, s, Y, h2, rfl⟩
theorem Stat.perm_eq (S : Stat P σ n ops fl base N perm e0 Hs tr ef Hf) {X : List Tr} {s : Tr} {Y : List Tr} (he : tr = X ++ s :: Y) : perm = X.map (·.i) ++ s.i :: Y.map (·.i) := by
  rw [← S.run.map_i, he]; simp
theorem Stat.ne (S : Stat P σ n ops fl base N perm e0 Hs tr ef Hf) {X : List Tr} {s : Tr} {Y : List Tr} (he : tr = X ++ s :: Y) : (∀ p ∈ X, p.i ≠ s.i) ∧ ∀ q ∈ Y, q.i ≠ s.i := by
  constructor
  · intro p hp e
    obtain ⟨o, _, _, g, _⟩ := zr7 perm [] S.ord (X.map (·.i)) s.i (Y.map (·.i)) (S.perm_eq he)
    exact g (by rw [← e]; exact List.mem_map.2 ⟨p, hp, rfl⟩)
  · intro q hq e
    obtain ⟨Y1, Y2, rfl⟩ := List.append_of_mem hq
    have he2 : tr = (X ++ s :: Y1) ++ q :: Y2 := by rw [he]; simp
    obtain ⟨o, _, _, g, _⟩ := zr7 perm [] S.ord _ q.i _ (S.perm_eq he2)
    exact g (by rw [e]; simp)
theorem Stat.pair (S : Stat P σ n ops fl base N perm e0 Hs tr ef Hf) {X : List Tr} {s : Tr} {Y : List Tr} (he : tr = X ++ s :: Y) {p : Tr} (hp : p ∈ X) :
    (zbbo ops p.o s.o = true → ancB (Region.before ops) s.i p.i = true) ∧ (p.kd.isChain = true → s.kd.isChain = true → ancB (Region.before ops) s.i p.i = true) ∧ (p.kd.isFloat = true → s.kd.isChain = true → ancB (Region.before ops) s.i p.i = true) := by
  obtain ⟨o, h1, _, _, _, h2, _⟩ := zr7 perm [] S.ord (X.map (·.i)) s.i (Y.map (·.i)) (S.perm_eq he)
  have hpair := h2 p.i (.inr (List.mem_map.2 ⟨p, hp, rfl⟩))
  obtain ⟨_, _, hso, hsk, _⟩ := S.run.split he
  obtain ⟨X1, X2, rfl⟩ := List.append_of_mem hp
  have he2 : tr = X1 ++ p :: (X2 ++ s :: Y) := by rw [he]; simp
  obtain ⟨_, _, hpo, hpk, _⟩ := S.run.split he2
  simp only [zbrw, hso, hpo, Bool.and_eq_true, Bool.or_eq_true, Bool.not_eq_true'] at hpair
  obtain ⟨q1, q2⟩ := hpair
  rw [← hpk, ← hsk] at q2
  refine ⟨fun hc => ?_, fun h3 h4 => ?_, fun h3 h4 => ?_⟩
  · rcases q1 with q1 | q1
    · rw [hc] at q1; cases q1
    · exact q1
  · cases hpk' : p.kd <;> rw [hpk'] at h3 q2 <;> first | (cases h3; done) | skip
    cases hsk' : s.kd <;> rw [hsk'] at h4 q2 <;> first | (cases h4; done) | exact q2
  · cases hpk' : p.kd <;> rw [hpk'] at h3 q2 <;> first | (cases h3; done) | skip
    cases hsk' : s.kd <;> rw [hsk'] at h4 q2 <;> first | (cases h4; done) | exact q2
theorem Stat.sides (S : Stat P σ n ops fl base N perm e0 Hs tr ef Hf) {L : Array Bool} (hd : Down ops (mm L)) {X : List Tr} {s : Tr} {Y : List Tr} (he : tr = X ++ s :: Y) (hu : mm L s.i = false)
    (hready : ∃ o, ops[s.i]? = some o ∧ ∀ e ∈ o.after.toList, Region.binds .any e = true → mm L e.on = true) :
    (∀ p, p ∈ X → ancB (Region.before ops) s.i p.i = true → mm L p.i = true) ∧ (∀ q, q ∈ Y → ancB (Region.before ops) q.i s.i = true → mm L q.i = false) := by
  constructor
  · intro p hp ha
    have hdown : ∀ j, (mm L j = true ∨ j = s.i) → ∃ o, ops[j]? = some o ∧ ∀ e ∈ o.after.toList, Region.binds .any e = true → (mm L e.on = true ∨ e.on = s.i) := by
      intro j hj
      rcases hj with hj | rfl
      · obtain ⟨o, h1, h2⟩ := hd j hj; exact ⟨o, h1, fun e he hb => .inl (h2 e he hb)⟩
      · obtain ⟨o, h1, h2⟩ := hready; exact ⟨o, h1, fun e he hb => .inl (h2 e he hb)⟩
    rcases zwl (Mp := fun j => mm L j = true ∨ j = s.i) hdown s.i (.inr rfl) p.i ha with q | q
    · exact q
    · exact absurd q ((S.ne he).1 p hp)
  · intro q hq ha
    cases hm : mm L q.i with
    | false => rfl
    | true =>
      have := zwl (Mp := fun j => mm L j = true) (fun j hj => hd j hj) q.i hm s.i ha
      rw [hu] at this; cases this
theorem zbvi {x y : Oper} {t : Nat} (h1 : x.dst = some t) (h2 : t ∈ zbfm ops y) : zbbo ops x y = true := by
  simp [zbbo, h1, h2]
theorem zbvj {x y : Oper} {t : Nat} (h1 : y.dst = some t) (h2 : t ∈ zbfm ops x) : zbbo ops x y = true := by
  simp [zbbo, h1, h2]
theorem zbvk {x y : Oper} {t : Nat} (h1 : x.dst = some t) (h2 : y.dst = some t) : zbbo ops x y = true := by
  simp [zbbo, h1, h2]
end
end Go.AM

/- Regions whose order is drawn: one operation, whichever is next. -/
namespace Go.AM
open Go.RowKit (Below)
variable {P : Program} {N : Nat} {w₀ : World} {ρ : Ren} {H : Heap} {w : World} {σ : zp} {n : Nat} {ops : Array Oper} {fl : List Nat} {base : Nat}
variable {perm : List Nat} {e0 : Env} {Hs : Heap} {tr : List Tr} {ef : Env} {Hf : Heap} {ρS : Ren} {HS : Heap} {wS : World} {aS : Act}
theorem zbtz {X1 X2 : List Tr} {p : Tr} (hp : p.kd.isChain = true) : cnt (X1 ++ p :: X2) = cnt X1 + 1 + cnt X2 := by
  rw [zbib]; simp [cnt, hp]; omega
theorem step (S : Stat P σ n ops fl base N perm e0 Hs tr ef Hf) (hbase : HS.next = base) {L : Array Bool} {a : Act} {k : Nat} (I : Inv n ops base N w₀ e0 Hs tr ρS HS wS aS L a w ρ k) {i : Nat} (hi : i ∈ Region.ready .any ops L)
    {K : Act → World → Prop} {Q : Exit → Act → World → Prop} (hK : ∀ a' w' ρ' k', Inv n ops base N w₀ e0 Hs tr ρS HS wS aS (L.setIfInBounds i true) a' w' ρ' k' → K a' w') : wpOp P ops Q i K a w := by
  obtain ⟨hlt, hu, hready⟩ := zbax I.size hi
  obtain ⟨X, s, Y, he, rfl⟩ := S.at hlt
  obtain ⟨henv, hstep, hops, hkd, hend⟩ := S.run.split he
  obtain ⟨hneX, hneY⟩ := S.ne he
  obtain ⟨sideX, sideY⟩ := S.sides I.down he hu hready
  have hLs : s.i < L.size := by rw [I.size]; exact hlt
  have hset := fun j => zb2e L s.i j hLs
  have pX := fun p (hp : p ∈ X) => S.pair he hp
  have pY : ∀ q, q ∈ Y → (zbbo ops s.o q.o = true → mm L q.i = false) ∧ (s.kd.isChain = true → q.kd.isChain = true → mm L q.i = false) ∧ (s.kd.isFloat = true → q.kd.isChain = true → mm L q.i = false) := by
    intro q hq
    obtain ⟨Y1, Y2, rfl⟩ := List.append_of_mem hq
    have he2 : tr = (X ++ s :: Y1) ++ q :: Y2 := by rw [he]; simp
    obtain ⟨h1, h2, h3⟩ := S.pair he2 (p := s) (by simp)
    exact ⟨fun c => sideY q hq (h1 c), fun c d => sideY q hq (h2 c d), fun c d => sideY q hq (h3 c d)⟩
  have hen : ∀ t ∈ zbfm ops s.o, s.env t = zgr n (mm L) tr e0 t := by
    intro t ht
    rw [henv, he, z3x]
    simp only [zgr]
    rw [if_neg (by rw [hu]; simp)]
    rw [zbb4 (mm L) Y _ fun q hq hd => (pY q hq).1 (zbvj hd ht)]
    exact (zbet (mm L) X e0 e0 (fun p hp hd => sideX p hp ((pX p hp).1 (zbvi hd ht))) rfl).symm
  have hgdE : gdM P σ ops s.o s.env = gdM P σ ops s.o (zgr n (mm L) tr e0) := zbvf s.o hen
  have hcur : ∀ t, zgr n (mm (L.setIfInBounds s.i true)) tr e0 t = (zgr n (mm L) tr e0).put n s.o.dst s.v t := by
    intro t
    rw [he, z3x, z3x]
    simp only [zgr]
    rw [if_pos (by rw [hset]; simp), if_neg (by rw [hu]; simp)]
    rw [z8l (mm (L.setIfInBounds s.i true)) (mm L) X e0 fun p hp => by rw [hset, if_neg (hneX p hp)]]
    rw [z8l (mm (L.setIfInBounds s.i true)) (mm L) Y _ fun q hq => by rw [hset, if_neg (hneY q hq)]]
    refine zbxm (mm L) Y _ (fun q hq hm t ht hd => ?_) t
    rw [(pY q hq).1 (zbvk ht hd)] at hm; cases hm
  have envOf : ∀ {ρ' : Ren} {r' : V}, ρ.le ρ' → VRel ρ' s.v r' → EnvRel n ρ' (zgr n (mm (L.setIfInBounds s.i true)) tr e0) (a.put s.o.dst r') := by
    intro ρ' r' hle hv
    have h1 := (I.env.mono hle).put s.o.dst hv
    exact ⟨h1.size, fun t => by rw [hcur]; exact h1.slot t⟩
  have hsize : (L.setIfInBounds s.i true).size = ops.size := by simp [I.size]
  have hdown : Down ops (mm (L.setIfInBounds s.i true)) := by
    intro j hj
    rw [hset] at hj
    have up : ∀ x, mm L x = true → mm (L.setIfInBounds s.i true) x = true := by intro x hx; rw [hset]; split <;> simp_all
    split at hj
    · rename_i q; subst q; obtain ⟨o, h1, h2⟩ := hready; exact ⟨o, h1, fun e hm hb => up _ (h2 e hm hb)⟩
    · obtain ⟨o, h1, h2⟩ := I.down j hj; exact ⟨o, h1, fun e hm hb => up _ (h2 e hm hb)⟩
  have hfree : ∀ {ρ' : Ren}, (∀ X s' Y j, tr = X ++ s' :: Y → s'.kd = .float j → s'.i ≠ s.i → mm L s'.i = false → ρ' (base + j) = none) →
      ∀ X s' Y j, tr = X ++ s' :: Y → s'.kd = .float j → mm (L.setIfInBounds s.i true) s'.i = false → ρ' (base + j) = none := by
    intro ρ' h X' s' Y' j h1 h2 h3
    rw [hset] at h3
    split at h3
    · cases h3
    · rename_i q; exact h X' s' Y' j h1 h2 q h3
  have uniq : ∀ {X' : List Tr} {s' : Tr} {Y' : List Tr}, tr = X' ++ s' :: Y' → s'.i = s.i → X' = X ∧ s' = s ∧ Y' = Y := by
    intro X' s' Y' he' hii
    have key : ∀ (A : List Tr) (B : List Tr) (u v : Tr) (C D : List Tr), A ++ u :: C = B ++ v :: D → (∀ p ∈ A, p.i ≠ v.i) → (∀ p ∈ B, p.i ≠ u.i) → A = B ∧ u = v ∧ C = D := by
      intro A
      induction A with
      | nil =>
        intro B u v C D h hA hB
        cases B with
        | nil => simp at h; exact ⟨rfl, h.1, h.2⟩
        | cons b B => simp at h; exact absurd (by rw [h.1]) (hB b (by simp))
      | cons x A ih =>
        intro B u v C D h hA hB
        cases B with
        | nil => simp at h; exact absurd (by rw [h.1]) (hA x (by simp))
        | cons b B =>
          simp at h
          obtain ⟨g1, g2, g3⟩ := ih B u v C D h.2 (fun p hp => hA p (by simp [hp])) (fun p hp => hB p (by simp [hp]))
          exact ⟨by rw [h.1, g1], g2, g3⟩
    exact key X' X s' s Y' Y (he'.symm.trans he) (fun p hp => by rw [← hii]; exact (S.ne he').1 p hp) (fun p hp => by rw [hii]; exact hneX p hp)
  have hchainSame : s.kd.isChain = false → ∀ X s' Y, tr = X ++ s' :: Y → s'.kd.isChain = true → (mm (L.setIfInBounds s.i true) s'.i = true ↔ cnt X < k) := by
    intro hc X' s' Y' he' hs'
    rw [hset]
    split
    · rename_i q
      obtain ⟨_, rfl, _⟩ := uniq he' q
      rw [hc] at hs'; cases hs'
    · exact I.chain X' s' Y' he' hs'
  have hflSame : s.kd.isFloat = false → ∀ (B : List Tr) G, (∀ x ∈ B, x ∈ tr) → zcy (mm (L.setIfInBounds s.i true)) base B G = zcy (mm L) base B G := by
    intro hf B G hB
    refine zlp _ _ B G fun x hx j hj => ?_
    rw [hset]
    split
    · rename_i q
      obtain ⟨X1, Y1, h1⟩ := List.append_of_mem (hB x hx)
      obtain ⟨_, rfl, _⟩ := uniq h1 q
      rw [hj] at hf; cases hf
    · rfl
  have afterSub : ∀ x ∈ after k tr, x ∈ tr := by
    intro x hx
    obtain ⟨X1, h1, _⟩ := zly k tr I.kle
    rw [h1]; simp [hx]
  unfold wpOp
  rw [hops]
  simp only
  have still : s.kd.isChain = false → s.kd.isFloat = false → (cls P s.o.op = .mv ∨ cls P s.o.op = .pure ∨ cls P s.o.op = .read) → ∀ {G : Heap} {H1 : Heap}, Rel N w₀ ρ G w → gdM P σ ops s.o s.env G = some (s.v, H1) →
      if Region.wanted s.o (yielded ops a.tmps) then s.o.wp P a w K Q ∨ (s.o.asks P a w ∧ LetsOut Q) else K (a.put s.o.dst undef) w := by
    intro hc hf hcls G H1 hG hgd
    rw [hgdE] at hgd
    have := zbxi (Q := Q) (K := K) S.hG hG I.env hcls hgd fun r' hr' => by
      refine hK _ w ρ k ⟨hsize, hdown, I.kle, hchainSame hc, ?_, envOf (.refl _) hr', ?_, hfree fun X' s' Y' j h1 h2 _ h4 => I.free X' s' Y' j h1 h2 h4, ?_⟩
      · rw [hflSame hf _ _ afterSub]; exact I.rel
      · rw [hflSame hf _ _ afterSub]; exact I.ext
      · rw [z3u]; exact I.defers
    split
    · rename_i hw; rw [if_pos hw] at this; exact .inl this
    · rename_i hw; rw [if_neg hw] at this; exact this
  have freeV : ∀ x ∈ after k tr, ∀ j, x.kd = .float j → (zcx k Hs tr).get (base + j) = none ∧ base + j < (zcx k Hs tr).next := by
    intro x hx j hj
    obtain ⟨X1, h1, h2⟩ := zly k tr I.kle
    obtain ⟨A, B, h3⟩ := List.append_of_mem hx
    have he3 : tr = (X1 ++ A) ++ x :: B := by rw [h1, h3]; simp
    exact zbxo S.run S.free he3 hj (by rw [zbib]; omega)
  have relV : Rel N w₀ ρ (zcx k Hs tr) w := by
    refine I.rel.shrink (zg3 _ _ _).symm fun b x hb => ?_
    rcases znp (base := base) (mm L) (after k tr) (zcx k Hs tr) (zcx k Hs tr) (fun x hx j hj => ⟨(freeV x hx j hj).2, (freeV x hx j hj).2⟩) b with ⟨⟨x', hx', j, hj, _, rfl⟩, _⟩ | ⟨q, _⟩
    · rw [(freeV x' hx' j hj).1] at hb; cases hb
    · rw [q]; exact hb
  cases hk : s.kd with
  | quiet =>
    rw [hk] at hstep hkd
    have hcls := zbxn hkd.symm
    have hq := zbes hcls hstep
    exact still (by rw [hk]; rfl) (by rw [hk]; rfl) (hcls.imp id .inl) I.rel (hq.2 _)
  | read =>
    rw [hk] at hstep hkd
    have hcls := zbty hkd.symm
    have hread : s.kd.isRead = true := by rw [hk]; rfl
    by_cases hown : k = cnt X
    · subst hown
      have := zbpr S.run true Hs S.rd (fun _ => rfl) X s Y he hread
      rw [this] at hstep
      exact still (by rw [hk]; rfl) (by rw [hk]; rfl) (.inr (.inr hcls)) relV hstep
    · have hv := zbia tr Hs k I.kle
      have hco : z3p (Region.before ops) (zz2 tr) s.i k = true := by
        simp only [z3p, Bool.and_eq_true, List.all_eq_true, Bool.not_eq_true']
        constructor
        · intro c hc
          cases hb : ancB (Region.before ops) c s.i with
          | false => rfl
          | true =>
            obtain ⟨j, hj⟩ := List.getElem?_of_mem hc
            have hjk : j < k := by
              rcases Nat.lt_or_ge j k with q | q
              · exact q
              · rw [List.getElem?_eq_none (by simp; omega)] at hj; cases hj
            rw [List.getElem?_take, if_pos hjk] at hj
            obtain ⟨X1, p, Y1, h1, h2, h3, h4⟩ := zz5 tr j c hj
            have hm := (I.chain X1 p Y1 h1 h2).2 (by omega)
            rw [h4] at hm
            have := zwl (Mp := fun j => mm L j = true) (fun j hj => I.down j hj) c hm s.i hb
            rw [hu] at this; cases this
        · intro c hc
          cases hb : ancB (Region.before ops) s.i c with
          | false => rfl
          | true =>
            obtain ⟨j, hj⟩ := List.getElem?_of_mem hc
            rw [List.getElem?_drop] at hj
            obtain ⟨X1, p, Y1, h1, h2, h3, h4⟩ := zz5 tr (k + j) c hj
            have hnm : ¬ mm L p.i = true := fun q => by have := (I.chain X1 p Y1 h1 h2).1 q; omega
            have hdown2 : ∀ j, (mm L j = true ∨ j = s.i) → ∃ o, ops[j]? = some o ∧ ∀ e ∈ o.after.toList, Region.binds .any e = true → (mm L e.on = true ∨ e.on = s.i) := by
              intro j hj
              rcases hj with hj | rfl
              · obtain ⟨o, h1, h2⟩ := I.down j hj; exact ⟨o, h1, fun e he hb => .inl (h2 e he hb)⟩
              · obtain ⟨o, h1, h2⟩ := hready; exact ⟨o, h1, fun e he hb => .inl (h2 e he hb)⟩
            rcases zwl (Mp := fun j => mm L j = true ∨ j = s.i) hdown2 s.i (.inr rfl) c hb with q | q
            · rw [h4] at hnm; exact absurd q hnm
            · obtain ⟨_, rfl, _⟩ := uniq h1 (by rw [h4, q])
              rw [hk] at h2; cases h2
      obtain ⟨H1, hg⟩ := zbxl (S.chk X s Y he hread k _ hv hown hco)
      exact still (by rw [hk]; rfl) (by rw [hk]; rfl) (.inr (.inr hcls)) relV hg
  | chain =>
    have hsc : s.kd.isChain = true := by rw [hk]; rfl
    have hkX : k = cnt X := by
      have h1 : ¬ cnt X < k := fun q => by have := (I.chain X s Y he hsc).2 q; rw [hu] at this; cases this
      rcases Nat.lt_or_ge k (cnt X) with q | q
      · obtain ⟨X1, p, X2, g1, g2, g3⟩ := z6j X k q
        have hp : p ∈ X := by rw [g1]; simp
        have hm := sideX p hp ((pX p hp).2.1 g2 hsc)
        have he3 : tr = X1 ++ p :: (X2 ++ s :: Y) := by rw [he, g1]; simp
        have := (I.chain X1 p _ he3 g2).1 hm
        omega
      · omega
    subst hkX
    have hD : after (cnt X) tr = after (cnt X) X ++ s :: Y := by rw [he]; exact zbb6 X _ _ (Nat.le_refl _)
    have hseg := (zbpt S.run Hs [] rfl).1 X s Y he
    have hsegD : s.H = zcy (fun _ => true) base (after (cnt X) X) (zcx (cnt X) Hs tr) := by
      rw [hseg]
      by_cases hz : cnt X = 0
      · rw [if_pos hz, hz]; simp [after]
      · rw [if_neg hz]
    have subD : ∀ x ∈ after (cnt X) X, x ∈ X := by
      intro x hx
      obtain ⟨X1, h1, _⟩ := zly (cnt X) X (Nat.le_refl _)
      rw [h1]; simp [hx]
    have hsH : s.H = zcy (mm L) base (after (cnt X) X) (zcx (cnt X) Hs tr) := by
      rw [hsegD]
      refine zlp _ _ _ _ fun x hx j hj => ?_
      have hp := subD x hx
      exact (sideX x hp ((pX x hp).2.2 (by rw [hj]; rfl) hsc)).symm
    have hHL : zcy (mm L) base (after (cnt X) tr) (zcx (cnt X) Hs tr) = zcy (mm L) base Y s.H := by
      rw [hD, zov, ← hsH]
      simp [zcy, hk]
    rw [hk] at hend
    simp only [zxp, Bool.and_eq_true] at hend
    have freeY : ∀ x ∈ Y, ∀ j, x.kd = .float j → (s.H.get (base + j) = none ∧ base + j < s.H.next) ∧ (s.H'.get (base + j) = none ∧ base + j < s.H'.next) := by
      intro x hx j hj
      obtain ⟨Y1, Y2, rfl⟩ := List.append_of_mem hx
      have he3 : tr = (X ++ s :: Y1) ++ x :: Y2 := by rw [he]; simp
      obtain ⟨_, _, _, q, _⟩ := S.run.split he3
      rw [hj] at q
      have hm : base + j ∈ kept fl base ((Y1 ++ x :: Y2).map (·.i)) := zbb5 (z6i q.symm) _ (by simp)
      exact ⟨zu4 _ hend.1 hm, zu4 _ hend.2 hm⟩
    have hrelA := I.rel
    rw [hHL] at hrelA
    have hextA := I.ext
    rw [hHL] at hextA
    have relS : Rel N w₀ ρ s.H w := by
      refine hrelA.shrink (zg3 _ _ _).symm fun b x hb => ?_
      rcases znp (base := base) (mm L) Y s.H s.H (fun x hx j hj => ⟨(freeY x hx j hj).1.2, (freeY x hx j hj).1.2⟩) b with ⟨⟨x', hx', j, hj, _, rfl⟩, _⟩ | ⟨q, _⟩
      · rw [(freeY x' hx' j hj).1.1] at hb; cases hb
      · rw [q]; exact hb
    rw [hk] at hstep
    have hgd : gdM P σ ops s.o s.env s.H = some (s.v, s.H') := hstep
    rw [hgdE] at hgd
    have := zbtx (Q := Q) (K := K) S.hσ S.hG relS I.env hgd fun r' w' ⟨ρ', g1, g2, g3⟩ => by
      obtain ⟨q1, q2⟩ := zb3p hrelA g2 g3 fun x hx j hj => ⟨(freeY x hx j hj).1.1, (freeY x hx j hj).1.2, (freeY x hx j hj).2.1⟩
      have hveq : zcx (cnt X + 1) Hs tr = s.H' := by
        rw [he, show cnt X + 1 = cnt X + (0 + 1) by omega, z3v]
        simp [zcx, hsc]
      have haeq : after (cnt X + 1) tr = Y := by
        rw [he, show cnt X + 1 = cnt X + (0 + 1) by omega, z3w]
        simp [after, hsc]
      have hfs : zcy (mm (L.setIfInBounds s.i true)) base Y s.H' = zcy (mm L) base Y s.H' := by
        refine zlp _ _ _ _ fun x hx j hj => ?_
        rw [hset, if_neg (hneY x hx)]
      refine hK _ w' ρ' (cnt X + 1) ⟨hsize, hdown, ?_, fun X' s' Y' he' hs' => ?_, ?_, envOf g3.le g1, ?_, hfree fun X' s' Y' j h1 h2 h3 h4 => ?_, ?_⟩
      · rw [he, zbtz hsc]; omega
      · rw [hset]
        split
        · rename_i qq
          obtain ⟨rfl, rfl, _⟩ := uniq he' qq
          simp
        · rename_i qq
          rw [I.chain X' s' Y' he' hs']
          constructor
          · intro h; omega
          · intro h
            rcases Nat.lt_or_ge (cnt X') (cnt X) with h5 | h5
            · exact h5
            · exfalso
              have heq : cnt X' = cnt X := by omega
              have key : ∀ (A B : List Tr) (u v : Tr) (C D : List Tr), A ++ u :: C = B ++ v :: D → u.kd.isChain = true → v.kd.isChain = true → cnt A = cnt B → u = v := by
                intro A
                induction A with
                | nil =>
                  intro B u v C D h hu hv hc
                  cases B with
                  | nil => simp at h; exact h.1
                  | cons b B => simp at h; rw [← h.1] at hc; simp [cnt, hu] at hc; omega
                | cons x A ih =>
                  intro B u v C D h hu hv hc
                  cases B with
                  | nil => simp at h; rw [h.1] at hc; simp [cnt, hv] at hc
                  | cons b B => simp at h; rw [h.1] at hc; exact ih B u v C D h.2 hu hv (by simp only [cnt] at hc; omega)
              have := key X' X s' s Y' Y (he'.symm.trans he) hs' hsc heq
              exact qq (by rw [this])
      · rw [haeq, hveq, hfs]; exact q1
      · rw [haeq, hveq, hfs]; exact hextA.trans q2
      · have h5 := I.free X' s' Y' j h1 h2 h4
        have hin : s' ∈ Y ∨ s' ∈ X := by
          have : s' ∈ tr := by rw [h1]; simp
          rw [he] at this
          rcases List.mem_append.1 this with q | q
          · exact .inr q
          · rcases List.mem_cons.1 q with q | q
            · exact absurd (by rw [q]) h3
            · exact .inl q
        rcases hin with hin | hin
        · rw [g3.same _ (freeY s' hin j h2).1.2]; exact h5
        · exact absurd (sideX s' hin ((pX s' hin).2.2 (by rw [h2]; rfl) hsc)) (by rw [h4]; simp)
      · rw [z3u]; exact I.defers
    split
    · rename_i hw; rw [if_pos hw] at this; exact .inl this
    · rename_i hw; rw [if_neg hw] at this; exact this
  | float j =>
    rw [hk] at hstep hkd
    obtain ⟨hg0, hmk, x, v0, hact, hv, hno, hlt2, hH'⟩ := hstep
    have hsf : s.kd.isFloat = true := by rw [hk]; rfl
    have hsc : s.kd.isChain = false := by rw [hk]; rfl
    have hkX : k ≤ cnt X := by
      rcases Nat.lt_or_ge (cnt X) k with q | q
      · exfalso
        have hq2 : cnt X < cnt tr := Nat.lt_of_lt_of_le q I.kle
        obtain ⟨X1, p, X2, g1, g2, g3⟩ := z6j tr (cnt X) hq2
        have hm := (I.chain X1 p X2 g1 g2).2 (by omega)
        have hp : p ∈ X ∨ p ∈ Y := by
          have : p ∈ tr := by rw [g1]; simp
          rw [he] at this
          rcases List.mem_append.1 this with q | q
          · exact .inl q
          · rcases List.mem_cons.1 q with q | q
            · rw [q, hsc] at g2; cases g2
            · exact .inr q
        rcases hp with hp | hp
        · -- a chain operation ahead of it has a smaller number
          obtain ⟨A, B, h1⟩ := List.append_of_mem hp
          have he3 : tr = A ++ p :: (B ++ s :: Y) := by rw [he, h1]; simp
          have h2 : cnt X = cnt A + 1 + cnt B := by rw [h1]; exact zbtz g2
          have key : ∀ (A B : List Tr) (u v : Tr) (C D : List Tr), A ++ u :: C = B ++ v :: D → u.i = v.i → (∀ p ∈ A, p.i ≠ v.i) → (∀ p ∈ B, p.i ≠ u.i) → A = B := by
            intro A
            induction A with
            | nil => intro B u v C D h hi hA hB; cases B with
              | nil => rfl
              | cons b B => simp at h; exact absurd (by rw [h.1]) (hB b (by simp))
            | cons x A ih => intro B u v C D h hi hA hB; cases B with
              | nil => simp at h; exact absurd (by rw [h.1]) (hA x (by simp))
              | cons b B => simp at h; rw [h.1, ih B u v C D h.2 hi (fun p hp => hA p (by simp [hp])) (fun p hp => hB p (by simp [hp]))]
          have := key A X1 p p _ _ (he3.symm.trans g1) rfl (fun y hy => (S.ne he3).1 y hy) (fun y hy => (S.ne g1).1 y hy)
          rw [this] at h2; omega
        · have := (pY p hp).2.2 hsf g2
          rw [this] at hm; cases hm
      · exact q
    have hD : after k tr = after k X ++ s :: Y := by rw [he]; exact zbb6 X _ _ hkX
    have hidx : zz1 fl s.i = some j := z6i hkd.symm
    have otherId : ∀ y ∈ tr, ∀ j', y.kd = .float j' → y.i ≠ s.i → base + j' ≠ base + j := by
      intro y hy j' hj' hne e
      obtain ⟨A, B, h1⟩ := List.append_of_mem hy
      obtain ⟨_, _, _, q, _⟩ := S.run.split h1
      rw [hj'] at q
      have : j' = j := by omega
      rw [this] at q
      exact hne (zblu fl (z6i q.symm) hidx)
    have hsin : s ∈ after k tr := by rw [hD]; simp
    have hver := freeV s hsin j hk
    have hblk : s.H'.get (base + j) = some x := by rw [hH', Heap.get_set _ _ _ _ hlt2]; simp
    have hget : ∀ b, (zcy (mm (L.setIfInBounds s.i true)) base (after k tr) (zcx k Hs tr)).get b = ((zcy (mm L) base (after k tr) (zcx k Hs tr)).set (base + j) (some x)).get b := by
      intro b
      rw [hD, zov, zov]
      have e1 : zcy (mm (L.setIfInBounds s.i true)) base (after k X) (zcx k Hs tr) = zcy (mm L) base (after k X) (zcx k Hs tr) := by
        refine zlp _ _ _ _ fun y hy j' hj' => ?_
        have : y ∈ X := by
          obtain ⟨X1, h1, _⟩ := zly k X hkX
          rw [h1]; simp [hy]
        rw [hset, if_neg (hneX y this)]
      rw [e1]
      have hm1 : mm (L.setIfInBounds s.i true) s.i = true := by rw [hset]; simp
      simp only [zcy, hk, hm1, if_true, hu, Bool.false_eq_true, if_false, hblk]
      have e2 : ∀ G, zcy (mm (L.setIfInBounds s.i true)) base Y G = zcy (mm L) base Y G := fun G => zlp _ _ _ _ fun y hy j' hj' => by rw [hset, if_neg (hneY y hy)]
      rw [e2]
      have hYids : ∀ y ∈ Y, ∀ j', y.kd = .float j' → mm L y.i = true → base + j' ≠ base + j := fun y hy j' hj' _ => otherId y (by rw [he]; simp [hy]) j' hj' (hneY y hy)
      have hnx : base + j < (zcy (mm L) base (after k X) (zcx k Hs tr)).next := by rw [zg3]; exact hver.2
      by_cases hb : b = base + j
      · subst hb
        rw [z6h (mm L) Y _ hYids, Heap.get_set _ _ _ _ hnx, Heap.get_set _ _ _ _ (by rw [zg3]; exact hnx)]
        simp
      · rw [Heap.get_set_ne _ _ _ hb]
        rcases znp (base := base) (mm L) Y ((zcy (mm L) base (after k X) (zcx k Hs tr)).set (base + j) (some x)) (zcy (mm L) base (after k X) (zcx k Hs tr)) (fun y hy j' hj' => by
          have h1 := freeV y (by rw [hD]; simp [hy]) j' hj'
          rw [Heap.next_set, zg3]; exact ⟨h1.2, h1.2⟩) b with ⟨_, q⟩ | ⟨q1, q2⟩
        · exact q
        · rw [q1, q2, Heap.get_set_ne _ _ _ hb]
    have hfreeA : (zcy (mm L) base (after k tr) (zcx k Hs tr)).get (base + j) = none := by
      rw [z6h (mm L) (after k tr) _ fun y hy j' hj' hm => otherId y (afterSub y hy) j' hj' fun e => by rw [e, hu] at hm; cases hm]
      exact hver.1
    have hρ := I.free X s Y j he hk hu
    have hw : Region.wanted s.o (yielded ops a.tmps) = true := by simp [Region.wanted, hg0]
    rw [if_pos hw]
    left
    have hactE : actM P (evO P (zgr n (mm L) tr e0)) s.o.op ⟨[]⟩ = some (v0, ⟨[some x]⟩) := by
      rw [← zbh8 s.o.op (e := evO P s.env) fun z hz => zblt z fun t ht => hen t (by
        have : zd9 ops s.o = some none := by simp [zd9, hg0]
        simp only [zbfm, this]; exact zbh9 hz ht)]
      exact hact
    obtain ⟨x2, hx2, r', w', hrun, hmko⟩ := zbxf (P := P) I.rel.big (z8j S.hG I.rel I.env) s.o hmk hactE
    cases hx2
    unfold Oper.wp
    rw [hrun]
    show K (a.put s.o.dst r') w'
    obtain ⟨ob, nd, sz, rfl, hB, hV⟩ := hmko
    have hle : ρ.le (ρ.add (base + j) ⟨w.heap.size, 0, sz⟩) := Ren.le_add _ hρ
    have hadd : ρ.add (base + j) ⟨w.heap.size, 0, sz⟩ (base + j) = some ⟨w.heap.size, 0, sz⟩ := by simp [Ren.add]
    have hheap : ∀ c, c < w.heap.size → (({ w with drawn := nd } : World).alloc ob).heap[c]? = w.heap[c]? := by
      intro c hc
      show (w.heap.push ob)[c]? = _
      rw [Array.getElem?_push, if_neg (by omega)]
    have hnext : base + j < (zcy (mm L) base (after k tr) (zcx k Hs tr)).next := by rw [zg3]; exact hver.2
    have hR : Rel N w₀ (ρ.add (base + j) ⟨w.heap.size, 0, sz⟩) ((zcy (mm L) base (after k tr) (zcx k Hs tr)).set (base + j) (some x)) (({ w with drawn := nd } : World).alloc ob) := by
      refine ⟨I.rel.below.trans ⟨rfl, rfl, rfl, by simp, fun c hc => hheap c (Nat.lt_of_lt_of_le hc I.rel.big)⟩, ?_, fun b hb => ?_, fun b hb => ?_, fun b y hb => ?_, fun b b' y y' L1 L2 hb hb' hne hL1 hL2 => ?_⟩
      · have := I.rel.big; simp; omega
      · rw [Heap.next_set] at hb
        unfold Ren.add; rw [if_neg (by omega)]; exact I.rel.dom b hb
      · obtain ⟨z, hz⟩ := I.rel.base b hb; exact ⟨z, hle _ _ hz⟩
      · rw [Heap.get_set _ _ _ _ hnext] at hb
        split at hb
        · rename_i e; cases hb; subst e; exact ⟨_, hadd, hB _ hle⟩
        · obtain ⟨L1, hL1, hr⟩ := I.rel.blk b y hb
          exact ⟨L1, hle _ _ hL1, hr.mono hle (hheap _ (I.rel.lt hb hL1))⟩
      · rw [Heap.get_set _ _ _ _ hnext] at hb hb'
        unfold Ren.add at hL1 hL2
        by_cases e1 : b = base + j
        · have e2 : b' ≠ base + j := fun q => hne (e1.trans q.symm)
          rw [if_pos e1] at hL1; rw [if_neg e2] at hb' hL2; cases hL1
          have := I.rel.lt hb' hL2
          intro q; rw [← q] at this; exact Nat.lt_irrefl _ this
        · by_cases e2 : b' = base + j
          · rw [if_neg e1] at hb hL1; rw [if_pos e2] at hL2; cases hL2
            have := I.rel.lt hb hL1
            intro q; rw [q] at this; exact Nat.lt_irrefl _ this
          · rw [if_neg e1] at hb hL1; rw [if_neg e2] at hb' hL2
            exact I.rel.inj b b' y y' L1 L2 hb hb' hne hL1 hL2
    have hE : Ext ρS HS wS (ρ.add (base + j) ⟨w.heap.size, 0, sz⟩) ((zcy (mm L) base (after k tr) (zcx k Hs tr)).set (base + j) (some x)) (({ w with drawn := nd } : World).alloc ob) := by
      refine ⟨I.ext.le.trans hle, fun b hb => ?_, by rw [Heap.next_set]; exact I.ext.next, ⟨?_, fun c hc hn => ?_⟩, fun b y L1 hb hL1 => ?_⟩
      · unfold Ren.add; rw [if_neg (by omega)]; exact I.ext.same b hb
      · have := I.ext.apart.1; simp; omega
      · rw [hheap c (Nat.lt_of_lt_of_le hc I.ext.apart.1)]; exact I.ext.apart.2 c hc hn
      · rw [Heap.get_set _ _ _ _ hnext] at hb
        unfold Ren.add at hL1
        split at hb
        · rename_i e; rw [if_pos e] at hL1; cases hL1; exact .inl I.ext.apart.1
        · rename_i e; rw [if_neg e] at hL1; exact I.ext.old b y L1 hb hL1
    have hnx2 : (zcy (mm (L.setIfInBounds s.i true)) base (after k tr) (zcx k Hs tr)).next = ((zcy (mm L) base (after k tr) (zcx k Hs tr)).set (base + j) (some x)).next := by rw [Heap.next_set, zg3, zg3]
    refine hK _ _ _ k ⟨hsize, hdown, I.kle, hchainSame hsc, hR.congr hnx2 hget, envOf hle (by rw [hv]; exact hV _ _ hadd), hE.congr hnx2 hget, hfree fun X' s' Y' j' h1 h2 h3 h4 => ?_, by rw [z3u]; exact I.defers⟩
    unfold Ren.add
    rw [if_neg (otherId s' (by rw [h1]; simp) j' h2 h3)]
    exact I.free X' s' Y' j' h1 h2 h4
end Go.AM
