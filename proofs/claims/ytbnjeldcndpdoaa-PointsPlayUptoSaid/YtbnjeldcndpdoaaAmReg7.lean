import Derived.Test.YtbnjeldcndpdoaaAmReg6
set_option linter.all false
/- Regions whose order is drawn: one operation, whichever is next. -/
namespace Go.AM
open Go.RowKit (Below)

variable {P : Program} {N : Nat} {w₀ : World} {ρ : Ren} {H : Heap} {w : World} {σ : Calls'} {n : Nat} {ops : Array Oper} {fl : List Nat} {base : Nat}
variable {perm : List Nat} {e0 : Env} {Hs : Heap} {tr : List Tr} {ef : Env} {Hf : Heap} {ρS : Ren} {HS : Heap} {wS : World} {aS : Act}

theorem cnt_mid {X1 X2 : List Tr} {p : Tr} (hp : p.kd.isChain = true) : cnt (X1 ++ p :: X2) = cnt X1 + 1 + cnt X2 := by
  rw [cnt_append]; simp [cnt, hp]; omega

theorem step (S : Stat P σ n ops fl base N perm e0 Hs tr ef Hf) (hbase : HS.next = base) {L : Array Bool} {a : Act} {k : Nat} (I : Inv n ops base N w₀ e0 Hs tr ρS HS wS aS L a w ρ k) {i : Nat} (hi : i ∈ Region.ready .any ops L)
    {K : Act → World → Prop} {Q : Exit → Act → World → Prop} (hK : ∀ a' w' ρ' k', Inv n ops base N w₀ e0 Hs tr ρS HS wS aS (L.setIfInBounds i true) a' w' ρ' k' → K a' w') : wpOp P ops Q i K a w := by
  obtain ⟨hlt, hu, hready⟩ := ready_spec I.size hi
  obtain ⟨X, s, Y, he, rfl⟩ := S.at hlt
  obtain ⟨henv, hstep, hops, hkd, hend⟩ := S.run.split he
  obtain ⟨hneX, hneY⟩ := S.ne he
  obtain ⟨sideX, sideY⟩ := S.sides I.down he hu hready
  have hLs : s.i < L.size := by rw [I.size]; exact hlt
  have hset := fun j => mm_set L s.i j hLs
  -- pairs
  have pX := fun p (hp : p ∈ X) => S.pair he hp
  have pY : ∀ q, q ∈ Y → (clash ops s.o q.o = true → mm L q.i = false) ∧ (s.kd.isChain = true → q.kd.isChain = true → mm L q.i = false) ∧ (s.kd.isFloat = true → q.kd.isChain = true → mm L q.i = false) := by
    intro q hq
    obtain ⟨Y1, Y2, rfl⟩ := List.append_of_mem hq
    have he2 : tr = (X ++ s :: Y1) ++ q :: Y2 := by rw [he]; simp
    obtain ⟨h1, h2, h3⟩ := S.pair he2 (p := s) (by simp)
    exact ⟨fun c => sideY q hq (h1 c), fun c d => sideY q hq (h2 c d), fun c d => sideY q hq (h3 c d)⟩
  -- the slots that it looks at
  have hen : ∀ t ∈ usesD ops s.o, s.env t = curEnv n (mm L) tr e0 t := by
    intro t ht
    rw [henv, he, cur_append]
    simp only [curEnv]
    rw [if_neg (by rw [hu]; simp)]
    rw [cur_skip (mm L) Y _ fun q hq hd => (pY q hq).1 (clash_war hd ht)]
    exact (cur_agree (mm L) X e0 e0 (fun p hp hd => sideX p hp ((pX p hp).1 (clash_raw hd ht))) rfl).symm
  have hgdE : gdM P σ ops s.o s.env = gdM P σ ops s.o (curEnv n (mm L) tr e0) := gdM_congr s.o hen
  -- the slots behind it
  have hcur : ∀ t, curEnv n (mm (L.setIfInBounds s.i true)) tr e0 t = (curEnv n (mm L) tr e0).put n s.o.dst s.v t := by
    intro t
    rw [he, cur_append, cur_append]
    simp only [curEnv]
    rw [if_pos (by rw [hset]; simp), if_neg (by rw [hu]; simp)]
    rw [cur_congr (mm (L.setIfInBounds s.i true)) (mm L) X e0 fun p hp => by rw [hset, if_neg (hneX p hp)]]
    rw [cur_congr (mm (L.setIfInBounds s.i true)) (mm L) Y _ fun q hq => by rw [hset, if_neg (hneY q hq)]]
    refine cur_step (mm L) Y _ (fun q hq hm t ht hd => ?_) t
    rw [(pY q hq).1 (clash_waw ht hd)] at hm; cases hm
  have envOf : ∀ {ρ' : Ren} {r' : V}, ρ.le ρ' → VRel ρ' s.v r' → EnvRel n ρ' (curEnv n (mm (L.setIfInBounds s.i true)) tr e0) (a.put s.o.dst r') := by
    intro ρ' r' hle hv
    have h1 := (I.env.mono hle).put s.o.dst hv
    exact ⟨h1.size, fun t => by rw [hcur]; exact h1.slot t⟩
  -- the parts of the invariant that are the same for all
  have hsize : (L.setIfInBounds s.i true).size = ops.size := by simp [I.size]
  have hdown : Down ops (mm (L.setIfInBounds s.i true)) := by
    intro j hj
    rw [hset] at hj
    have up : ∀ x, mm L x = true → mm (L.setIfInBounds s.i true) x = true := by intro x hx; rw [hset]; split <;> simp_all
    split at hj
    · rename_i q; subst q; obtain ⟨o, h1, h2⟩ := hready; exact ⟨o, h1, fun e hm hb => up _ (h2 e hm hb)⟩
    · obtain ⟨o, h1, h2⟩ := I.down j hj; exact ⟨o, h1, fun e hm hb => up _ (h2 e hm hb)⟩
  have hfree : ∀ {ρ' : Ren}, (∀ X s' Y j, tr = X ++ s' :: Y → s'.kd = .float j → s'.i ≠ s.i → mm L s'.i = false → ρ' (base + j) = none) →
      ∀ X s' Y j, tr = X ++ s' :: Y → s'.kd = .float j → mm (L.setIfInBounds s.i true) s'.i = false → ρ' (base + j) = none := by
    intro ρ' h X' s' Y' j h1 h2 h3
    rw [hset] at h3
    split at h3
    · cases h3
    · rename_i q; exact h X' s' Y' j h1 h2 q h3
  have uniq : ∀ {X' : List Tr} {s' : Tr} {Y' : List Tr}, tr = X' ++ s' :: Y' → s'.i = s.i → X' = X ∧ s' = s ∧ Y' = Y := by
    intro X' s' Y' he' hii
    have key : ∀ (A : List Tr) (B : List Tr) (u v : Tr) (C D : List Tr), A ++ u :: C = B ++ v :: D → (∀ p ∈ A, p.i ≠ v.i) → (∀ p ∈ B, p.i ≠ u.i) → A = B ∧ u = v ∧ C = D := by
      intro A
      induction A with
      | nil =>
        intro B u v C D h hA hB
        cases B with
        | nil => simp at h; exact ⟨rfl, h.1, h.2⟩
        | cons b B => simp at h; exact absurd (by rw [h.1]) (hB b (by simp))
      | cons x A ih =>
        intro B u v C D h hA hB
        cases B with
        | nil => simp at h; exact absurd (by rw [h.1]) (hA x (by simp))
        | cons b B =>
          simp at h
          obtain ⟨g1, g2, g3⟩ := ih B u v C D h.2 (fun p hp => hA p (by simp [hp])) (fun p hp => hB p (by simp [hp]))
          exact ⟨by rw [h.1, g1], g2, g3⟩
    exact key X' X s' s Y' Y (he'.symm.trans he) (fun p hp => by rw [← hii]; exact (S.ne he').1 p hp) (fun p hp => by rw [hii]; exact hneX p hp)
  have hchainSame : s.kd.isChain = false → ∀ X s' Y, tr = X ++ s' :: Y → s'.kd.isChain = true → (mm (L.setIfInBounds s.i true) s'.i = true ↔ cnt X < k) := by
    intro hc X' s' Y' he' hs'
    rw [hset]
    split
    · rename_i q
      obtain ⟨_, rfl, _⟩ := uniq he' q
      rw [hc] at hs'; cases hs'
    · exact I.chain X' s' Y' he' hs'
  have hflSame : s.kd.isFloat = false → ∀ (B : List Tr) G, (∀ x ∈ B, x ∈ tr) → setFl (mm (L.setIfInBounds s.i true)) base B G = setFl (mm L) base B G := by
    intro hf B G hB
    refine setFl_congr _ _ B G fun x hx j hj => ?_
    rw [hset]
    split
    · rename_i q
      obtain ⟨X1, Y1, h1⟩ := List.append_of_mem (hB x hx)
      obtain ⟨_, rfl, _⟩ := uniq h1 q
      rw [hj] at hf; cases hf
    · rfl
  have afterSub : ∀ x ∈ after k tr, x ∈ tr := by
    intro x hx
    obtain ⟨X1, h1, _⟩ := after_suffix k tr I.kle
    rw [h1]; simp [hx]
  unfold wpOp
  rw [hops]
  simp only
  -- operations that leave the world alone
  have still : s.kd.isChain = false → s.kd.isFloat = false → (cls P s.o.op = .mv ∨ cls P s.o.op = .pure ∨ cls P s.o.op = .read) → ∀ {G : Heap} {H1 : Heap}, Rel N w₀ ρ G w → gdM P σ ops s.o s.env G = some (s.v, H1) →
      if Region.wanted s.o (yielded ops a.tmps) then s.o.wp P a w K Q ∨ (s.o.asks P a w ∧ LetsOut Q) else K (a.put s.o.dst undef) w := by
    intro hc hf hcls G H1 hG hgd
    rw [hgdE] at hgd
    have := gd_still (Q := Q) (K := K) S.hG hG I.env hcls hgd fun r' hr' => by
      refine hK _ w ρ k ⟨hsize, hdown, I.kle, hchainSame hc, ?_, envOf (.refl _) hr', ?_, hfree fun X' s' Y' j h1 h2 _ h4 => I.free X' s' Y' j h1 h2 h4, ?_⟩
      · rw [hflSame hf _ _ afterSub]; exact I.rel
      · rw [hflSame hf _ _ afterSub]; exact I.ext
      · rw [put_defers]; exact I.defers
    split
    · rename_i hw; rw [if_pos hw] at this; exact .inl this
    · rename_i hw; rw [if_neg hw] at this; exact this
  -- the version's own heap
  have freeV : ∀ x ∈ after k tr, ∀ j, x.kd = .float j → (verAt k Hs tr).get (base + j) = none ∧ base + j < (verAt k Hs tr).next := by
    intro x hx j hj
    obtain ⟨X1, h1, h2⟩ := after_suffix k tr I.kle
    obtain ⟨A, B, h3⟩ := List.append_of_mem hx
    have he3 : tr = (X1 ++ A) ++ x :: B := by rw [h1, h3]; simp
    exact ver_free S.run S.free he3 hj (by rw [cnt_append]; omega)
  have relV : Rel N w₀ ρ (verAt k Hs tr) w := by
    refine I.rel.shrink (setFl_next _ _ _).symm fun b x hb => ?_
    rcases setFl_both (base := base) (mm L) (after k tr) (verAt k Hs tr) (verAt k Hs tr) (fun x hx j hj => ⟨(freeV x hx j hj).2, (freeV x hx j hj).2⟩) b with ⟨⟨x', hx', j, hj, _, rfl⟩, _⟩ | ⟨q, _⟩
    · rw [(freeV x' hx' j hj).1] at hb; cases hb
    · rw [q]; exact hb
  cases hk : s.kd with
  | quiet =>
    rw [hk] at hstep hkd
    have hcls := kd_cls hkd.symm
    have hq := quiet_any hcls hstep
    exact still (by rw [hk]; rfl) (by rw [hk]; rfl) (hcls.imp id .inl) I.rel (hq.2 _)
  | read =>
    rw [hk] at hstep hkd
    have hcls := kd_read hkd.symm
    have hread : s.kd.isRead = true := by rw [hk]; rfl
    by_cases hown : k = cnt X
    · subst hown
      have := own_version S.run true Hs S.rd (fun _ => rfl) X s Y he hread
      rw [this] at hstep
      exact still (by rw [hk]; rfl) (by rw [hk]; rfl) (.inr (.inr hcls)) relV hstep
    · have hv := vers_get tr Hs k I.kle
      have hco : compat (Region.before ops) (chainIs tr) s.i k = true := by
        simp only [compat, Bool.and_eq_true, List.all_eq_true, Bool.not_eq_true']
        constructor
        · intro c hc
          cases hb : ancB (Region.before ops) c s.i with
          | false => rfl
          | true =>
            obtain ⟨j, hj⟩ := List.getElem?_of_mem hc
            have hjk : j < k := by
              rcases Nat.lt_or_ge j k with q | q
              · exact q
              · rw [List.getElem?_eq_none (by simp; omega)] at hj; cases hj
            rw [List.getElem?_take, if_pos hjk] at hj
            obtain ⟨X1, p, Y1, h1, h2, h3, h4⟩ := chainIs_get tr j c hj
            have hm := (I.chain X1 p Y1 h1 h2).2 (by omega)
            rw [h4] at hm
            have := before_sound (Mp := fun j => mm L j = true) (fun j hj => I.down j hj) c hm s.i hb
            rw [hu] at this; cases this
        · intro c hc
          cases hb : ancB (Region.before ops) s.i c with
          | false => rfl
          | true =>
            obtain ⟨j, hj⟩ := List.getElem?_of_mem hc
            rw [List.getElem?_drop] at hj
            obtain ⟨X1, p, Y1, h1, h2, h3, h4⟩ := chainIs_get tr (k + j) c hj
            have hnm : ¬ mm L p.i = true := fun q => by have := (I.chain X1 p Y1 h1 h2).1 q; omega
            have hdown2 : ∀ j, (mm L j = true ∨ j = s.i) → ∃ o, ops[j]? = some o ∧ ∀ e ∈ o.after.toList, Region.binds .any e = true → (mm L e.on = true ∨ e.on = s.i) := by
              intro j hj
              rcases hj with hj | rfl
              · obtain ⟨o, h1, h2⟩ := I.down j hj; exact ⟨o, h1, fun e he hb => .inl (h2 e he hb)⟩
              · obtain ⟨o, h1, h2⟩ := hready; exact ⟨o, h1, fun e he hb => .inl (h2 e he hb)⟩
            rcases before_sound (Mp := fun j => mm L j = true ∨ j = s.i) hdown2 s.i (.inr rfl) c hb with q | q
            · rw [h4] at hnm; exact absurd q hnm
            · obtain ⟨_, rfl, _⟩ := uniq h1 (by rw [h4, q])
              rw [hk] at h2; cases h2
      obtain ⟨H1, hg⟩ := chk_spec (S.chk X s Y he hread k _ hv hown hco)
      exact still (by rw [hk]; rfl) (by rw [hk]; rfl) (.inr (.inr hcls)) relV hg
  | chain =>
    have hsc : s.kd.isChain = true := by rw [hk]; rfl
    have hkX : k = cnt X := by
      have h1 : ¬ cnt X < k := fun q => by have := (I.chain X s Y he hsc).2 q; rw [hu] at this; cases this
      rcases Nat.lt_or_ge k (cnt X) with q | q
      · obtain ⟨X1, p, X2, g1, g2, g3⟩ := chain_at X k q
        have hp : p ∈ X := by rw [g1]; simp
        have hm := sideX p hp ((pX p hp).2.1 g2 hsc)
        have he3 : tr = X1 ++ p :: (X2 ++ s :: Y) := by rw [he, g1]; simp
        have := (I.chain X1 p _ he3 g2).1 hm
        omega
      · omega
    subst hkX
    -- the heap ahead of it
    have hD : after (cnt X) tr = after (cnt X) X ++ s :: Y := by rw [he]; exact after_le X _ _ (Nat.le_refl _)
    have hseg := (heap_seg S.run Hs [] rfl).1 X s Y he
    have hsegD : s.H = setFl (fun _ => true) base (after (cnt X) X) (verAt (cnt X) Hs tr) := by
      rw [hseg]
      by_cases hz : cnt X = 0
      · rw [if_pos hz, hz]; simp [after]
      · rw [if_neg hz]
    have subD : ∀ x ∈ after (cnt X) X, x ∈ X := by
      intro x hx
      obtain ⟨X1, h1, _⟩ := after_suffix (cnt X) X (Nat.le_refl _)
      rw [h1]; simp [hx]
    have hsH : s.H = setFl (mm L) base (after (cnt X) X) (verAt (cnt X) Hs tr) := by
      rw [hsegD]
      refine setFl_congr _ _ _ _ fun x hx j hj => ?_
      have hp := subD x hx
      exact (sideX x hp ((pX x hp).2.2 (by rw [hj]; rfl) hsc)).symm
    have hHL : setFl (mm L) base (after (cnt X) tr) (verAt (cnt X) Hs tr) = setFl (mm L) base Y s.H := by
      rw [hD, setFl_append, ← hsH]
      simp [setFl, hk]
    rw [hk] at hend
    simp only [chainEnd, Bool.and_eq_true] at hend
    have freeY : ∀ x ∈ Y, ∀ j, x.kd = .float j → (s.H.get (base + j) = none ∧ base + j < s.H.next) ∧ (s.H'.get (base + j) = none ∧ base + j < s.H'.next) := by
      intro x hx j hj
      obtain ⟨Y1, Y2, rfl⟩ := List.append_of_mem hx
      have he3 : tr = (X ++ s :: Y1) ++ x :: Y2 := by rw [he]; simp
      obtain ⟨_, _, _, q, _⟩ := S.run.split he3
      rw [hj] at q
      have hm : base + j ∈ kept fl base ((Y1 ++ x :: Y2).map (·.i)) := kept_mem (kd_float q.symm) _ (by simp)
      exact ⟨freeIn_spec _ hend.1 hm, freeIn_spec _ hend.2 hm⟩
    have hrelA := I.rel
    rw [hHL] at hrelA
    have hextA := I.ext
    rw [hHL] at hextA
    have relS : Rel N w₀ ρ s.H w := by
      refine hrelA.shrink (setFl_next _ _ _).symm fun b x hb => ?_
      rcases setFl_both (base := base) (mm L) Y s.H s.H (fun x hx j hj => ⟨(freeY x hx j hj).1.2, (freeY x hx j hj).1.2⟩) b with ⟨⟨x', hx', j, hj, _, rfl⟩, _⟩ | ⟨q, _⟩
      · rw [(freeY x' hx' j hj).1.1] at hb; cases hb
      · rw [q]; exact hb
    rw [hk] at hstep
    have hgd : gdM P σ ops s.o s.env s.H = some (s.v, s.H') := hstep
    rw [hgdE] at hgd
    have := gd_step (Q := Q) (K := K) S.hσ S.hG relS I.env hgd fun r' w' ⟨ρ', g1, g2, g3⟩ => by
      obtain ⟨q1, q2⟩ := readd hrelA g2 g3 fun x hx j hj => ⟨(freeY x hx j hj).1.1, (freeY x hx j hj).1.2, (freeY x hx j hj).2.1⟩
      have hveq : verAt (cnt X + 1) Hs tr = s.H' := by
        rw [he, show cnt X + 1 = cnt X + (0 + 1) by omega, verAt_append]
        simp [verAt, hsc]
      have haeq : after (cnt X + 1) tr = Y := by
        rw [he, show cnt X + 1 = cnt X + (0 + 1) by omega, after_append]
        simp [after, hsc]
      have hfs : setFl (mm (L.setIfInBounds s.i true)) base Y s.H' = setFl (mm L) base Y s.H' := by
        refine setFl_congr _ _ _ _ fun x hx j hj => ?_
        rw [hset, if_neg (hneY x hx)]
      refine hK _ w' ρ' (cnt X + 1) ⟨hsize, hdown, ?_, fun X' s' Y' he' hs' => ?_, ?_, envOf g3.le g1, ?_, hfree fun X' s' Y' j h1 h2 h3 h4 => ?_, ?_⟩
      · rw [he, cnt_mid hsc]; omega
      · rw [hset]
        split
        · rename_i qq
          obtain ⟨rfl, rfl, _⟩ := uniq he' qq
          simp
        · rename_i qq
          rw [I.chain X' s' Y' he' hs']
          constructor
          · intro h; omega
          · intro h
            rcases Nat.lt_or_ge (cnt X') (cnt X) with h5 | h5
            · exact h5
            · exfalso
              have heq : cnt X' = cnt X := by omega
              -- two of the chain with one number are one
              have key : ∀ (A B : List Tr) (u v : Tr) (C D : List Tr), A ++ u :: C = B ++ v :: D → u.kd.isChain = true → v.kd.isChain = true → cnt A = cnt B → u = v := by
                intro A
                induction A with
                | nil =>
                  intro B u v C D h hu hv hc
                  cases B with
                  | nil => simp at h; exact h.1
                  | cons b B => simp at h; rw [← h.1] at hc; simp [cnt, hu] at hc; omega
                | cons x A ih =>
                  intro B u v C D h hu hv hc
                  cases B with
                  | nil => simp at h; rw [h.1] at hc; simp [cnt, hv] at hc
                  | cons b B => simp at h; rw [h.1] at hc; exact ih B u v C D h.2 hu hv (by simp only [cnt] at hc; omega)
              have := key X' X s' s Y' Y (he'.symm.trans he) hs' hsc heq
              exact qq (by rw [this])
      · rw [haeq, hveq, hfs]; exact q1
      · rw [haeq, hveq, hfs]; exact hextA.trans q2
      · have h5 := I.free X' s' Y' j h1 h2 h4
        have hin : s' ∈ Y ∨ s' ∈ X := by
          have : s' ∈ tr := by rw [h1]; simp
          rw [he] at this
          rcases List.mem_append.1 this with q | q
          · exact .inr q
          · rcases List.mem_cons.1 q with q | q
            · exact absurd (by rw [q]) h3
            · exact .inl q
        rcases hin with hin | hin
        · rw [g3.same _ (freeY s' hin j h2).1.2]; exact h5
        · exact absurd (sideX s' hin ((pX s' hin).2.2 (by rw [h2]; rfl) hsc)) (by rw [h4]; simp)
      · rw [put_defers]; exact I.defers
    split
    · rename_i hw; rw [if_pos hw] at this; exact .inl this
    · rename_i hw; rw [if_neg hw] at this; exact this
  | float j =>
    rw [hk] at hstep hkd
    obtain ⟨hg0, hmk, x, v0, hact, hv, hno, hlt2, hH'⟩ := hstep
    have hsf : s.kd.isFloat = true := by rw [hk]; rfl
    have hsc : s.kd.isChain = false := by rw [hk]; rfl
    -- it lies behind the k-th of the chain
    have hkX : k ≤ cnt X := by
      rcases Nat.lt_or_ge (cnt X) k with q | q
      · exfalso
        have hq2 : cnt X < cnt tr := Nat.lt_of_lt_of_le q I.kle
        obtain ⟨X1, p, X2, g1, g2, g3⟩ := chain_at tr (cnt X) hq2
        have hm := (I.chain X1 p X2 g1 g2).2 (by omega)
        have hp : p ∈ X ∨ p ∈ Y := by
          have : p ∈ tr := by rw [g1]; simp
          rw [he] at this
          rcases List.mem_append.1 this with q | q
          · exact .inl q
          · rcases List.mem_cons.1 q with q | q
            · rw [q, hsc] at g2; cases g2
            · exact .inr q
        rcases hp with hp | hp
        · -- a chain operation ahead of it has a smaller number
          obtain ⟨A, B, h1⟩ := List.append_of_mem hp
          have he3 : tr = A ++ p :: (B ++ s :: Y) := by rw [he, h1]; simp
          have h2 : cnt X = cnt A + 1 + cnt B := by rw [h1]; exact cnt_mid g2
          have key : ∀ (A B : List Tr) (u v : Tr) (C D : List Tr), A ++ u :: C = B ++ v :: D → u.i = v.i → (∀ p ∈ A, p.i ≠ v.i) → (∀ p ∈ B, p.i ≠ u.i) → A = B := by
            intro A
            induction A with
            | nil => intro B u v C D h hi hA hB; cases B with
              | nil => rfl
              | cons b B => simp at h; exact absurd (by rw [h.1]) (hB b (by simp))
            | cons x A ih => intro B u v C D h hi hA hB; cases B with
              | nil => simp at h; exact absurd (by rw [h.1]) (hA x (by simp))
              | cons b B => simp at h; rw [h.1, ih B u v C D h.2 hi (fun p hp => hA p (by simp [hp])) (fun p hp => hB p (by simp [hp]))]
          have := key A X1 p p _ _ (he3.symm.trans g1) rfl (fun y hy => (S.ne he3).1 y hy) (fun y hy => (S.ne g1).1 y hy)
          rw [this] at h2; omega
        · have := (pY p hp).2.2 hsf g2
          rw [this] at hm; cases hm
      · exact q
    have hD : after k tr = after k X ++ s :: Y := by rw [he]; exact after_le X _ _ hkX
    have hidx : idxOf fl s.i = some j := kd_float hkd.symm
    have otherId : ∀ y ∈ tr, ∀ j', y.kd = .float j' → y.i ≠ s.i → base + j' ≠ base + j := by
      intro y hy j' hj' hne e
      obtain ⟨A, B, h1⟩ := List.append_of_mem hy
      obtain ⟨_, _, _, q, _⟩ := S.run.split h1
      rw [hj'] at q
      have : j' = j := by omega
      rw [this] at q
      exact hne (idxOf_inj fl (kd_float q.symm) hidx)
    have hsin : s ∈ after k tr := by rw [hD]; simp
    have hver := freeV s hsin j hk
    -- behind it: the float is laid
    have hblk : s.H'.get (base + j) = some x := by rw [hH', Heap.get_set _ _ _ _ hlt2]; simp
    have hget : ∀ b, (setFl (mm (L.setIfInBounds s.i true)) base (after k tr) (verAt k Hs tr)).get b = ((setFl (mm L) base (after k tr) (verAt k Hs tr)).set (base + j) (some x)).get b := by
      intro b
      rw [hD, setFl_append, setFl_append]
      have e1 : setFl (mm (L.setIfInBounds s.i true)) base (after k X) (verAt k Hs tr) = setFl (mm L) base (after k X) (verAt k Hs tr) := by
        refine setFl_congr _ _ _ _ fun y hy j' hj' => ?_
        have : y ∈ X := by
          obtain ⟨X1, h1, _⟩ := after_suffix k X hkX
          rw [h1]; simp [hy]
        rw [hset, if_neg (hneX y this)]
      rw [e1]
      have hm1 : mm (L.setIfInBounds s.i true) s.i = true := by rw [hset]; simp
      simp only [setFl, hk, hm1, if_true, hu, Bool.false_eq_true, if_false, hblk]
      have e2 : ∀ G, setFl (mm (L.setIfInBounds s.i true)) base Y G = setFl (mm L) base Y G := fun G => setFl_congr _ _ _ _ fun y hy j' hj' => by rw [hset, if_neg (hneY y hy)]
      rw [e2]
      have hYids : ∀ y ∈ Y, ∀ j', y.kd = .float j' → mm L y.i = true → base + j' ≠ base + j := fun y hy j' hj' _ => otherId y (by rw [he]; simp [hy]) j' hj' (hneY y hy)
      have hnx : base + j < (setFl (mm L) base (after k X) (verAt k Hs tr)).next := by rw [setFl_next]; exact hver.2
      by_cases hb : b = base + j
      · subst hb
        rw [setFl_other (mm L) Y _ hYids, Heap.get_set _ _ _ _ hnx, Heap.get_set _ _ _ _ (by rw [setFl_next]; exact hnx)]
        simp
      · rw [Heap.get_set_ne _ _ _ hb]
        rcases setFl_both (base := base) (mm L) Y ((setFl (mm L) base (after k X) (verAt k Hs tr)).set (base + j) (some x)) (setFl (mm L) base (after k X) (verAt k Hs tr)) (fun y hy j' hj' => by
          have h1 := freeV y (by rw [hD]; simp [hy]) j' hj'
          rw [Heap.next_set, setFl_next]; exact ⟨h1.2, h1.2⟩) b with ⟨_, q⟩ | ⟨q1, q2⟩
        · exact q
        · rw [q1, q2, Heap.get_set_ne _ _ _ hb]
    have hfreeA : (setFl (mm L) base (after k tr) (verAt k Hs tr)).get (base + j) = none := by
      rw [setFl_other (mm L) (after k tr) _ fun y hy j' hj' hm => otherId y (afterSub y hy) j' hj' fun e => by rw [e, hu] at hm; cases hm]
      exact hver.1
    have hρ := I.free X s Y j he hk hu
    -- the operation
    have hw : Region.wanted s.o (yielded ops a.tmps) = true := by simp [Region.wanted, hg0]
    rw [if_pos hw]
    left
    have hactE : actM P (evO P (curEnv n (mm L) tr e0)) s.o.op Heap.none0 = some (v0, Heap.one x) := by
      rw [← actM_congr s.o.op (e := evO P s.env) fun z hz => evO_congr z fun t ht => hen t (by
        have : guardSlot ops s.o = some none := by simp [guardSlot, hg0]
        simp only [usesD, this]; exact opTmps_mem hz ht)]
      exact hact
    obtain ⟨x2, hx2, r', w', hrun, hmko⟩ := mk_sound (P := P) I.rel.big (evO_rel S.hG I.rel I.env) s.o hmk hactE
    cases hx2
    unfold Oper.wp
    rw [hrun]
    show K (a.put s.o.dst r') w'
    obtain ⟨ob, nd, sz, rfl, hB, hV⟩ := hmko
    have hle : ρ.le (ρ.add (base + j) ⟨w.heap.size, 0, sz⟩) := Ren.le_add _ hρ
    have hadd : ρ.add (base + j) ⟨w.heap.size, 0, sz⟩ (base + j) = some ⟨w.heap.size, 0, sz⟩ := by simp [Ren.add]
    have hheap : ∀ c, c < w.heap.size → (({ w with drawn := nd } : World).alloc ob).heap[c]? = w.heap[c]? := by
      intro c hc
      show (w.heap.push ob)[c]? = _
      rw [Array.getElem?_push, if_neg (by omega)]
    have hnext : base + j < (setFl (mm L) base (after k tr) (verAt k Hs tr)).next := by rw [setFl_next]; exact hver.2
    have hR : Rel N w₀ (ρ.add (base + j) ⟨w.heap.size, 0, sz⟩) ((setFl (mm L) base (after k tr) (verAt k Hs tr)).set (base + j) (some x)) (({ w with drawn := nd } : World).alloc ob) := by
      refine ⟨I.rel.below.trans ⟨rfl, rfl, rfl, by simp, fun c hc => hheap c (Nat.lt_of_lt_of_le hc I.rel.big)⟩, ?_, fun b hb => ?_, fun b hb => ?_, fun b y hb => ?_, fun b b' y y' L1 L2 hb hb' hne hL1 hL2 => ?_⟩
      · have := I.rel.big; simp; omega
      · rw [Heap.next_set] at hb
        unfold Ren.add; rw [if_neg (by omega)]; exact I.rel.dom b hb
      · obtain ⟨z, hz⟩ := I.rel.base b hb; exact ⟨z, hle _ _ hz⟩
      · rw [Heap.get_set _ _ _ _ hnext] at hb
        split at hb
        · rename_i e; cases hb; subst e; exact ⟨_, hadd, hB _ hle⟩
        · obtain ⟨L1, hL1, hr⟩ := I.rel.blk b y hb
          exact ⟨L1, hle _ _ hL1, hr.mono hle (hheap _ (I.rel.lt hb hL1))⟩
      · rw [Heap.get_set _ _ _ _ hnext] at hb hb'
        unfold Ren.add at hL1 hL2
        by_cases e1 : b = base + j
        · have e2 : b' ≠ base + j := fun q => hne (e1.trans q.symm)
          rw [if_pos e1] at hL1; rw [if_neg e2] at hb' hL2; cases hL1
          have := I.rel.lt hb' hL2
          intro q; rw [← q] at this; exact Nat.lt_irrefl _ this
        · by_cases e2 : b' = base + j
          · rw [if_neg e1] at hb hL1; rw [if_pos e2] at hL2; cases hL2
            have := I.rel.lt hb hL1
            intro q; rw [q] at this; exact Nat.lt_irrefl _ this
          · rw [if_neg e1] at hb hL1; rw [if_neg e2] at hb' hL2
            exact I.rel.inj b b' y y' L1 L2 hb hb' hne hL1 hL2
    have hE : Ext ρS HS wS (ρ.add (base + j) ⟨w.heap.size, 0, sz⟩) ((setFl (mm L) base (after k tr) (verAt k Hs tr)).set (base + j) (some x)) (({ w with drawn := nd } : World).alloc ob) := by
      refine ⟨I.ext.le.trans hle, fun b hb => ?_, by rw [Heap.next_set]; exact I.ext.next, ⟨?_, fun c hc hn => ?_⟩, fun b y L1 hb hL1 => ?_⟩
      · unfold Ren.add; rw [if_neg (by omega)]; exact I.ext.same b hb
      · have := I.ext.apart.1; simp; omega
      · rw [hheap c (Nat.lt_of_lt_of_le hc I.ext.apart.1)]; exact I.ext.apart.2 c hc hn
      · rw [Heap.get_set _ _ _ _ hnext] at hb
        unfold Ren.add at hL1
        split at hb
        · rename_i e; rw [if_pos e] at hL1; cases hL1; exact .inl I.ext.apart.1
        · rename_i e; rw [if_neg e] at hL1; exact I.ext.old b y L1 hb hL1
    have hnx2 : (setFl (mm (L.setIfInBounds s.i true)) base (after k tr) (verAt k Hs tr)).next = ((setFl (mm L) base (after k tr) (verAt k Hs tr)).set (base + j) (some x)).next := by rw [Heap.next_set, setFl_next, setFl_next]
    refine hK _ _ _ k ⟨hsize, hdown, I.kle, hchainSame hsc, hR.congr hnx2 hget, envOf hle (by rw [hv]; exact hV _ _ hadd), hE.congr hnx2 hget, hfree fun X' s' Y' j' h1 h2 h3 h4 => ?_, by rw [put_defers]; exact I.defers⟩
    unfold Ren.add
    rw [if_neg (otherId s' (by rw [h1]; simp) j' h2 h3)]
    exact I.free X' s' Y' j' h1 h2 h4

end Go.AM
