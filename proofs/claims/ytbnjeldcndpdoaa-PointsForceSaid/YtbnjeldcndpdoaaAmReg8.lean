import Derived.Test.YtbnjeldcndpdoaaAmReg7
set_option linter.all false
/- Regions whose order is drawn: whatever is drawn. -/
namespace Go.AM
open Go.RowKit (Below)

variable {P : Program} {N : Nat} {w₀ : World} {ρ : Ren} {H : Heap} {w : World} {σ : Calls'} {n : Nat} {ops : Array Oper} {fl : List Nat} {base : Nat}

theorem count_set : ∀ (l : List Bool) (i : Nat), l[i]? = some false → (l.set i true).countP id = l.countP id + 1
  | [], i, h => by simp at h
  | b :: l, 0, h => by simp at h; subst h; simp
  | b :: l, i + 1, h => by
    have := count_set l i (by simpa using h)
    cases b <;> simp [List.countP_cons, this] <;> omega

theorem count_all (l : List Bool) (h : l.countP id = l.length) : ∀ b ∈ l, b = true := fun b hb => by
  have := List.countP_eq_length.mp h b hb
  simpa using this

section
variable {perm : List Nat} {e0 : Env} {Hs : Heap} {tr : List Tr} {ef : Env} {Hf : Heap} {ρS : Ren} {HS : Heap} {wS : World} {aS : Act}

theorem fin_of (S : Stat P σ n ops fl base N perm e0 Hs tr ef Hf) {L : Array Bool} {a : Act} {k : Nat} (I : Inv n ops base N w₀ e0 Hs tr ρS HS wS aS L a w ρ k) (hall : ∀ X s Y, tr = X ++ s :: Y → mm L s.i = true) :
    Rel N w₀ ρ Hf w ∧ EnvRel n ρ ef a ∧ Ext ρS HS wS ρ Hf w ∧ a.defers = aS.defers := by
  have hk : k = cnt tr := by
    rcases Nat.lt_or_ge k (cnt tr) with q | q
    · obtain ⟨X1, p, X2, g1, g2, g3⟩ := chain_at tr k q
      have := (I.chain X1 p X2 g1 g2).1 (hall X1 p X2 g1)
      omega
    · have := I.kle; omega
  have hmem : ∀ s ∈ tr, mm L s.i = true := fun s hs => by
    obtain ⟨X, Y, h⟩ := List.append_of_mem hs
    exact hall X s Y h
  have hsub : ∀ s ∈ after k tr, s ∈ tr := by
    intro s hs
    obtain ⟨X1, h1, _⟩ := after_suffix k tr I.kle
    rw [h1]; simp [hs]
  have hHf : setFl (mm L) base (after k tr) (verAt k Hs tr) = Hf := by
    rw [(heap_seg S.run Hs [] rfl).2, ← hk]
    rw [setFl_congr (mm L) (fun _ => true) (after k tr) _ fun s hs j hj => hmem s (hsub s hs)]
    by_cases hz : k = 0
    · rw [if_pos hz]; subst hz; simp [after]
    · rw [if_neg hz]
  have hef : ∀ t, curEnv n (mm L) tr e0 t = ef t := by
    intro t
    rw [S.run.env_end]
    exact cur_agree (mm L) tr e0 e0 (fun p hp _ => hmem p hp) rfl
  exact ⟨by rw [← hHf]; exact I.rel, ⟨I.env.size, fun t => by rw [← hef]; exact I.env.slot t⟩, by rw [← hHf]; exact I.ext, I.defers⟩

theorem all_of_none (S : Stat P σ n ops fl base N perm e0 Hs tr ef Hf) {L : Array Bool} (hsz : L.size = ops.size) (hr : Region.ready .any ops L = []) : ∀ (m : Nat) X s Y, X.length = m → tr = X ++ s :: Y → mm L s.i = true := by
  intro m
  induction m using Nat.strongRecOn with
  | _ m ih =>
    intro X s Y hm he
    cases hu : mm L s.i with
    | true => rfl
    | false =>
      obtain ⟨o, h1, _, _, h2, _⟩ := okOrder_spec perm [] S.ord (X.map (·.i)) s.i (Y.map (·.i)) (S.perm_eq he)
      have : s.i ∈ Region.ready .any ops L := by
        refine ready_of hsz h1 hu fun e hee hb => ?_
        rcases h2 e hee hb with q | q
        · simp at q
        · obtain ⟨p, hp, hpe⟩ := List.mem_map.1 q
          obtain ⟨A, B, hAB⟩ := List.append_of_mem hp
          have he2 : tr = A ++ p :: (B ++ s :: Y) := by rw [he, hAB]; simp
          have := ih A.length (by rw [← hm, hAB]; simp) A p _ rfl he2
          rw [← hpe]; exact this
      rw [hr] at this; simp at this

theorem any_of (S : Stat P σ n ops fl base N perm e0 Hs tr ef Hf) (hbase : HS.next = base) {Q : Exit → Act → World → Prop} (hq : ∀ ρ' w' a', Rel N w₀ ρ' Hf w' → EnvRel n ρ' ef a' → Ext ρS HS wS ρ' Hf w' → a'.defers = aS.defers → Q .normal a' w') :
    ∀ (fuel : Nat) (L : Array Bool) (a : Act) (w : World) (ρ : Ren) (k : Nat), Inv n ops base N w₀ e0 Hs tr ρS HS wS aS L a w ρ k → fuel + L.toList.countP id = ops.size → wpAny P .any ops Q fuel L a w
  | 0, L, a, w, ρ, k, I, hc => by
    have hall := count_all L.toList (by rw [Array.length_toList, I.size]; omega)
    have hmm : ∀ i, i < ops.size → mm L i = true := by
      intro i hi
      have hL : i < L.size := by rw [I.size]; exact hi
      have := hall L[i] (by simp)
      simpa [mm, hL] using this
    have hready : Region.ready .any ops L = [] := by
      cases hr : Region.ready .any ops L with
      | nil => rfl
      | cons i r =>
        obtain ⟨h1, h2, _⟩ := ready_spec I.size (i := i) (by rw [hr]; simp)
        rw [hmm i h1] at h2; cases h2
    have := fin_of S I fun X s Y he => by
      obtain ⟨_, _, ho, _⟩ := S.run.split he
      have : s.i < ops.size := by
        rcases Nat.lt_or_ge s.i ops.size with q | q
        · exact q
        · simp [Array.getElem?_eq_none q] at ho
      exact hmm _ this
    exact ⟨hready, hq ρ w a this.1 this.2.1 this.2.2.1 this.2.2.2⟩
  | fuel + 1, L, a, w, ρ, k, I, hc => by
    refine ⟨fun hr => ?_, fun i hi => ?_⟩
    · have := fin_of S I fun X s Y he => all_of_none S I.size hr X.length X s Y rfl he
      exact hq ρ w a this.1 this.2.1 this.2.2.1 this.2.2.2
    · obtain ⟨h1, h2, _⟩ := ready_spec I.size hi
      have hL : i < L.size := by rw [I.size]; exact h1
      refine step S hbase I hi fun a' w' ρ' k' I' => any_of S hbase hq fuel _ a' w' ρ' k' I' ?_
      have : L.toList[i]? = some false := by
        have : L[i] = false := by simpa [mm, hL] using h2
        simp [hL, this]
      rw [Array.toList_setIfInBounds, count_set _ _ this]
      omega

end

theorem resv_spec : ∀ (m : Nat) (H : Heap), (∀ b, (resv H m).get b = H.get b) ∧ (resv H m).next = H.next + m
  | 0, H => ⟨fun b => rfl, rfl⟩
  | m + 1, H => by
    obtain ⟨h1, h2⟩ := resv_spec m (H.push none)
    refine ⟨fun b => ?_, by show (resv (H.push none) m).next = _; rw [h2, Heap.next_push]; omega⟩
    show (resv (H.push none) m).get b = _
    rw [h1, Heap.get_push]
    split
    · rename_i e
      subst e
      cases hg : H.get H.next with
      | none => rfl
      | some x => exact absurd (Heap.get_lt hg) (Nat.lt_irrefl _)
    · rfl

theorem idxOf_lt : ∀ (l : List Nat) {i j : Nat}, idxOf l i = some j → j < l.length
  | [], i, j, h => by simp [idxOf] at h
  | x :: xs, i, j, h => by
    simp only [idxOf] at h
    cases hb : Nat.beq x i with
    | true => rw [hb] at h; simp at h; subst h; simp
    | false =>
      rw [hb] at h
      simp only [cond_false] at h
      split at h
      · rename_i j' hj'; cases h; have := idxOf_lt xs hj'; simp; omega
      · cases h

theorem kept_free {H' : Heap} : ∀ (l : List Nat), (∀ j, j < fl.length → H'.get (base + j) = none ∧ base + j < H'.next) → freeIn H' (kept fl base l) = true
  | [], _ => rfl
  | x :: xs, h => by
    simp only [kept]
    split
    · rename_i j hj
      obtain ⟨h1, h2⟩ := h j (idxOf_lt fl hj)
      simp only [freeIn, h1, blt_t h2, Bool.true_and]
      exact kept_free xs h
    · exact kept_free xs h

/-- A REGION WHOSE ORDER IS DRAWN -/
theorem regD_sound {R : Type} (hσ : SimAll P σ) (hG : P.globals.size ≤ N) {Q : Exit → Act → World → Prop} {r : R} {Hr : Heap} {k : Env → M R} {perm : List Nat} {en : Env} {a : Act} {id : Nat} (h : Rel N w₀ ρ H w) (he : EnvRel n ρ en a)
    (hl : regD P σ n ops perm fl en k H = some (r, Hr))
    (hq : ∀ ρ' H' w' en' a', Rel N w₀ ρ' H' w' → EnvRel n ρ' en' a' → Ext ρ H w ρ' H' w' → a'.defers = a.defers → k en' H' = some (r, Hr) → Q .normal a' w') : (Code.region id ops true).wp P Q a w := by
  unfold regD at hl
  cases hok : okD P ops perm fl with
  | false => rw [hok] at hl; cases hl
  | true =>
    rw [hok] at hl
    simp only [cond_true] at hl
    simp only [okD, Bool.and_eq_true, List.all_eq_true] at hok
    obtain ⟨⟨⟨⟨⟨o1, o2⟩, o3⟩, o4⟩, _⟩, _⟩ := hok
    obtain ⟨tr, ef, Hf, hrun, hk⟩ := runD_run perm en (resv H fl.length) [] hl
    simp only [List.nil_append] at hk
    obtain ⟨hk1, hk2⟩ := chkAll_spec tr 0 hk
    obtain ⟨hg, hn⟩ := resv_spec fl.length H
    have hfree0 : ∀ b, H.next ≤ b → H.get b = none := fun b hb => by
      cases hg : H.get b with
      | none => rfl
      | some x => exact absurd (Heap.get_lt hg) (by omega)
    have S : Stat P σ n ops fl H.next N perm en (resv H fl.length) tr ef Hf :=
      ⟨hσ, hG, hrun, o3, fun i hi => by have := o2 i (by simpa using hi); simpa using this, o4, fun X s Y e hs kk HH hv hne hco => hk2 X s Y e hs kk HH hv (by simpa using hne) hco,
        kept_free perm fun j hj => ⟨by rw [hg]; exact hfree0 _ (by omega), by omega⟩⟩
    have hrel : Rel N w₀ ρ (resv H fl.length) { w with drawn := w.drawn + 1 } := by
      have h' := h.drew (w.drawn + 1)
      exact ⟨h'.below, h'.big, fun b hb => h'.dom b (by omega), h'.base, fun b x hb => h'.blk b x (by rw [← hg]; exact hb), fun b b' x x' L L' hb hb' => h'.inj b b' x x' L L' (by rw [← hg]; exact hb) (by rw [← hg]; exact hb')⟩
    have hext : Ext ρ H w ρ (resv H fl.length) { w with drawn := w.drawn + 1 } :=
      ⟨.refl _, fun _ _ => rfl, by omega, ⟨Nat.le_refl _, fun _ _ _ => rfl⟩, fun b x L hb hL => .inr ⟨b, x, L, by rw [← hg]; exact hb, hL, rfl⟩⟩
    have hmm : ∀ i, mm (Array.replicate ops.size false) i = false := by
      intro i
      unfold mm
      rw [Array.getD_eq_getD_getElem?, Array.getElem?_replicate]
      split <;> rfl
    have hset0 : ∀ (B : List Tr) (G : Heap), setFl (mm (Array.replicate ops.size false)) H.next B G = G := by
      intro B G
      have h1 := setFl_congr (base := H.next) (mm (Array.replicate ops.size false)) (fun _ => false) B G (fun s _ j _ => hmm s.i)
      rw [h1]
      clear h1
      induction B generalizing G with
      | nil => rfl
      | cons s B ih => unfold setFl; cases s.kd <;> simp [ih]
    have hcur0 : ∀ (B : List Tr) (e : Env), curEnv n (mm (Array.replicate ops.size false)) B e = e := by
      intro B e
      rw [cur_congr (mm (Array.replicate ops.size false)) (fun _ => false) B e (fun s _ => hmm s.i)]
      induction B generalizing e with
      | nil => rfl
      | cons s B ih => simp [curEnv, ih]
    refine wp_region_any o1 (any_of S rfl (ρS := ρ) (HS := H) (wS := w) (aS := a) (fun ρ' w' a' q1 q2 q3 q4 => hq ρ' Hf w' ef a' q1 q2 q3 q4 hk1) ops.size _ a _ ρ 0 ?_ ?_)
    · refine ⟨by simp, (fun i hi => by rw [hmm] at hi; cases hi), by omega, (fun X s Y _ _ => by rw [hmm]; simp), ?_, ?_, ?_, fun X s Y j e hj _ => ?_, rfl⟩
      · rw [hset0]; simpa [verAt] using hrel
      · rw [hcur0]; exact he
      · rw [hset0]; simpa [verAt] using hext
      · exact h.dom _ (by omega)
    · simp

end Go.AM
