import Derived.Test.YtjchglndancedaaGreatDoorAmReg7
import Derived.LoopN
import Derived.Scope
set_option linter.all false
/- Regions whose order is drawn: whatever is drawn. -/
namespace Go.AM
open Go.RowKit (Below)
variable {P : Program} {N : Nat} {w₀ : World} {ρ : Ren} {H : Heap} {w : World} {σ : zbz} {n : Nat} {ops : Array Oper} {fl : List Nat} {base : Nat}
theorem zbet : ∀ (l : List Bool) (i : Nat), l[i]? = some false → (l.set i true).countP id = l.countP id + 1
  | [], i, h => by simp at h
  | b :: l, 0, h => by simp at h; subst h; simp
  | b :: l, i + 1, h => by
    have := zbet l i (by simpa using h)
    cases b <;> simp [List.countP_cons, this] <;> omega
theorem zbni (l : List Bool) (h : l.countP id = l.length) : ∀ b ∈ l, b = true := fun b hb => by
  have := List.countP_eq_length.mp h b hb
  simpa using this
section
variable {perm : List Nat} {e0 : Env} {Hs : Heap} {tr : List Tr} {ef : Env} {Hf : Heap} {ρS : Ren} {HS : Heap} {wS : World} {aS : Act}
theorem zbo6 (S : Stat P σ n ops fl base N perm e0 Hs tr ef Hf) {L : Array Bool} {a : Act} {k : Nat} (I : Inv n ops base N w₀ e0 Hs tr ρS HS wS aS L a w ρ k) (hall : ∀ X s Y, tr = X ++ s :: Y → mm L s.i = true) :
    Rel N w₀ ρ Hf w ∧ EnvRel n ρ ef a ∧ Ext ρS HS wS ρ Hf w ∧ a.defers = aS.defers := by
  have hk : k = cnt tr := by
    rcases Nat.lt_or_ge k (cnt tr) with q | q
    · obtain ⟨X1, p, X2, g1, g2, g3⟩ := z09 tr k q
      have := (I.chain X1 p X2 g1 g2).1 (hall X1 p X2 g1)
      omega
    · have := I.kle; omega
  have hmem : ∀ s ∈ tr, mm L s.i = true := fun s hs => by
    obtain ⟨X, Y, h⟩ := List.append_of_mem hs
    exact hall X s Y h
  have hsub : ∀ s ∈ after k tr, s ∈ tr := by
    intro s hs
    obtain ⟨X1, h1, _⟩ := zli k tr I.kle
    rw [h1]; simp [hs]
  have hHf : zcy (mm L) base (after k tr) (zcr k Hs tr) = Hf := by
    rw [(zbh6 S.run Hs [] rfl).2, ← hk]
    rw [zla (mm L) (fun _ => true) (after k tr) _ fun s hs j hj => hmem s (hsub s hs)]
    by_cases hz : k = 0
    · rw [if_pos hz]; subst hz; simp [after]
    · rw [if_neg hz]
  have hef : ∀ t, zg0 n (mm L) tr e0 t = ef t := by
    intro t
    rw [S.run.env_end]
    exact z8s (mm L) tr e0 e0 (fun p hp _ => hmem p hp) rfl
  exact ⟨by rw [← hHf]; exact I.rel, ⟨I.env.size, fun t => by rw [← hef]; exact I.env.slot t⟩, by rw [← hHf]; exact I.ext, I.defers⟩
theorem zbh7 (S : Stat P σ n ops fl base N perm e0 Hs tr ef Hf) {L : Array Bool} (hsz : L.size = ops.size) (hr : Region.ready .any ops L = []) : ∀ (m : Nat) X s Y, X.length = m → tr = X ++ s :: Y → mm L s.i = true := by
  intro m
  induction m using Nat.strongRecOn with
  | _ m ih =>
    intro X s Y hm he
    cases hu : mm L s.i with
    | true => rfl
    | false =>
      obtain ⟨o, h1, _, _, h2, _⟩ := zqx perm [] S.ord (X.map (·.i)) s.i (Y.map (·.i)) (S.perm_eq he)
      have : s.i ∈ Region.ready .any ops L := by
        refine zbo5 hsz h1 hu fun e hee hb => ?_
        rcases h2 e hee hb with q | q
        · simp at q
        · obtain ⟨p, hp, hpe⟩ := List.mem_map.1 q
          obtain ⟨A, B, hAB⟩ := List.append_of_mem hp
          have he2 : tr = A ++ p :: (B ++ s :: Y) := by rw [he, hAB]; simp
          have := ih A.length (by rw [← hm, hAB]; simp) A p _ rfl he2
          rw [← hpe]; exact this
      rw [hr] at this; simp at this
theorem zbo7 (S : Stat P σ n ops fl base N perm e0 Hs tr ef Hf) (hbase : HS.next = base) {Q : Exit → Act → World → Prop} (hq : ∀ ρ' w' a', Rel N w₀ ρ' Hf w' → EnvRel n ρ' ef a' → Ext ρS HS wS ρ' Hf w' → a'.defers = aS.defers → Q .normal a' w') :
    ∀ (fuel : Nat) (L : Array Bool) (a : Act) (w : World) (ρ : Ren) (k : Nat), Inv n ops base N w₀ e0 Hs tr ρS HS wS aS L a w ρ k → fuel + L.toList.countP id = ops.size → wpAny P .any ops Q fuel L a w
  | 0, L, a, w, ρ, k, I, hc => by
    have hall := zbni L.toList (by rw [Array.length_toList, I.size]; omega)
    have hmm : ∀ i, i < ops.size → mm L i = true := by
      intro i hi
      have hL : i < L.size := by rw [I.size]; exact hi
      have := hall L[i] (by simp)
      simpa [mm, hL] using this
    have hready : Region.ready .any ops L = [] := by
      cases hr : Region.ready .any ops L with
      | nil => rfl
      | cons i r =>
        obtain ⟨h1, h2, _⟩ := z44 I.size (i := i) (by rw [hr]; simp)
        rw [hmm i h1] at h2; cases h2
    have := zbo6 S I fun X s Y he => by
      obtain ⟨_, _, ho, _⟩ := S.run.split he
      have : s.i < ops.size := by
        rcases Nat.lt_or_ge s.i ops.size with q | q
        · exact q
        · simp [Array.getElem?_eq_none q] at ho
      exact hmm _ this
    exact ⟨hready, hq ρ w a this.1 this.2.1 this.2.2.1 this.2.2.2⟩
  | fuel + 1, L, a, w, ρ, k, I, hc => by
    refine ⟨fun hr => ?_, fun i hi => ?_⟩
    · have := zbo6 S I fun X s Y he => zbh7 S I.size hr X.length X s Y rfl he
      exact hq ρ w a this.1 this.2.1 this.2.2.1 this.2.2.2
    · obtain ⟨h1, h2, _⟩ := z44 I.size hi
      have hL : i < L.size := by rw [I.size]; exact h1
      refine step S hbase I hi fun a' w' ρ' k' I' => zbo7 S hbase hq fuel _ a' w' ρ' k' I' ?_
      have : L.toList[i]? = some false := by
        have : L[i] = false := by simpa [mm, hL] using h2
        simp [hL, this]
      rw [Array.toList_setIfInBounds, zbet _ _ this]
      omega
end
theorem zuz : ∀ (m : Nat) (H : Heap), (∀ b, (zt9 H m).get b = H.get b) ∧ (zt9 H m).next = H.next + m
  | 0, H => ⟨fun b => rfl, rfl⟩
  | m + 1, H => by
    obtain ⟨h1, h2⟩ := zuz m (H.push none)
    refine ⟨fun b => ?_, by show (zt9 (H.push none) m).next = _; rw [h2, Heap.next_push]; omega⟩
    show (zt9 (H.push none) m).get b = _
    rw [h1, Heap.get_push]
    split
    · rename_i e
      subst e
      cases hg : H.get H.next with
      | none => rfl
      | some x => exact absurd (Heap.get_lt hg) (Nat.lt_irrefl _)
    · rfl
theorem zbh8 : ∀ (l : List Nat) {i j : Nat}, zwv l i = some j → j < l.length
  | [], i, j, h => by simp [zwv] at h
  | x :: xs, i, j, h => by
    simp only [zwv] at h
    cases hb : Nat.beq x i with
    | true => rw [hb] at h; simp at h; subst h; simp
    | false =>
      rw [hb] at h
      simp only [cond_false] at h
      split at h
      · rename_i j' hj'; cases h; have := zbh8 xs hj'; simp; omega
      · cases h
theorem z8t {H' : Heap} : ∀ (l : List Nat), (∀ j, j < fl.length → H'.get (base + j) = none ∧ base + j < H'.next) → zku H' (z55 fl base l) = true
  | [], _ => rfl
  | x :: xs, h => by
    simp only [z55]
    split
    · rename_i j hj
      obtain ⟨h1, h2⟩ := h j (zbh8 fl hj)
      simp only [zku, h1, zbsq h2, Bool.true_and]
      exact z8t xs h
    · exact z8t xs h
theorem zbki {R : Type} (hσ : zhz P σ) (hG : P.globals.size ≤ N) {Q : Exit → Act → World → Prop} {r : R} {Hr : Heap} {k : Env → M R} {perm : List Nat} {en : Env} {a : Act} {id : Nat} (h : Rel N w₀ ρ H w) (he : EnvRel n ρ en a)
    (hl : regD P σ n ops perm fl en k H = some (r, Hr))
    (hq : ∀ ρ' H' w' en' a', Rel N w₀ ρ' H' w' → EnvRel n ρ' en' a' → Ext ρ H w ρ' H' w' → a'.defers = a.defers → k en' H' = some (r, Hr) → Q .normal a' w') : (Code.region id ops true).wp P Q a w := by
  unfold regD at hl
  cases hok : okD P ops perm fl with
  | false => rw [hok] at hl; cases hl
  | true =>
    rw [hok] at hl
    simp only [cond_true] at hl
    simp only [okD, Bool.and_eq_true, List.all_eq_true] at hok
    obtain ⟨⟨⟨⟨⟨o1, o2⟩, o3⟩, o4⟩, _⟩, _⟩ := hok
    obtain ⟨tr, ef, Hf, hrun, hk⟩ := zbh3 perm en (zt9 H fl.length) [] hl
    simp only [List.nil_append] at hk
    obtain ⟨hk1, hk2⟩ := zwy tr 0 hk
    obtain ⟨hg, hn⟩ := zuz fl.length H
    have hfree0 : ∀ b, H.next ≤ b → H.get b = none := fun b hb => by
      cases hg : H.get b with
      | none => rfl
      | some x => exact absurd (Heap.get_lt hg) (by omega)
    have S : Stat P σ n ops fl H.next N perm en (zt9 H fl.length) tr ef Hf :=
      ⟨hσ, hG, hrun, o3, fun i hi => by have := o2 i (by simpa using hi); simpa using this, o4, fun X s Y e hs kk HH hv hne hco => hk2 X s Y e hs kk HH hv (by simpa using hne) hco,
        z8t perm fun j hj => ⟨by rw [hg]; exact hfree0 _ (by omega), by omega⟩⟩
    have hrel : Rel N w₀ ρ (zt9 H fl.length) { w with drawn := w.drawn + 1 } := by
      have h' := h.drew (w.drawn + 1)
      exact ⟨h'.below, h'.big, fun b hb => h'.dom b (by omega), h'.base, fun b x hb => h'.blk b x (by rw [← hg]; exact hb), fun b b' x x' L L' hb hb' => h'.inj b b' x x' L L' (by rw [← hg]; exact hb) (by rw [← hg]; exact hb')⟩
    have hext : Ext ρ H w ρ (zt9 H fl.length) { w with drawn := w.drawn + 1 } :=
      ⟨.refl _, fun _ _ => rfl, by omega, ⟨Nat.le_refl _, fun _ _ _ => rfl⟩, fun b x L hb hL => .inr ⟨b, x, L, by rw [← hg]; exact hb, hL, rfl⟩⟩
    have hmm : ∀ i, mm (Array.replicate ops.size false) i = false := by
      intro i
      unfold mm
      rw [Array.getD_eq_getD_getElem?, Array.getElem?_replicate]
      split <;> rfl
    have hset0 : ∀ (B : List Tr) (G : Heap), zcy (mm (Array.replicate ops.size false)) H.next B G = G := by
      intro B G
      have h1 := zla (base := H.next) (mm (Array.replicate ops.size false)) (fun _ => false) B G (fun s _ j _ => hmm s.i)
      rw [h1]
      clear h1
      induction B generalizing G with
      | nil => rfl
      | cons s B ih => unfold zcy; cases s.kd <;> simp [ih]
    have hcur0 : ∀ (B : List Tr) (e : Env), zg0 n (mm (Array.replicate ops.size false)) B e = e := by
      intro B e
      rw [z2w (mm (Array.replicate ops.size false)) (fun _ => false) B e (fun s _ => hmm s.i)]
      induction B generalizing e with
      | nil => rfl
      | cons s B ih => simp [zg0, ih]
    refine wp_region_any o1 (zbo7 S rfl (ρS := ρ) (HS := H) (wS := w) (aS := a) (fun ρ' w' a' q1 q2 q3 q4 => hq ρ' Hf w' ef a' q1 q2 q3 q4 hk1) ops.size _ a _ ρ 0 ?_ ?_)
    · refine ⟨by simp, (fun i hi => by rw [hmm] at hi; cases hi), by omega, (fun X s Y _ _ => by rw [hmm]; simp), ?_, ?_, ?_, fun X s Y j e hj _ => ?_, rfl⟩
      · rw [hset0]; simpa [zcr] using hrel
      · rw [hcur0]; exact he
      · rw [hset0]; simpa [zcr] using hext
      · exact h.dom _ (by omega)
    · simp
end Go.AM

/- Code and functions on the abstract machine. -/
namespace Go.AM
open Go.RowKit (Below)
inductive Hint where
  | leaf
  | reg (perm fl : List Nat)
  | seq (la : List Nat) (a b : Hint)
  | cond (a b : Hint)
  | blk (a : Hint)
  | loop (l : List Nat) (a : Hint)
  | scp (a : Hint)
def zbsr : Code → Bool | .region _ _ _ => true | _ => false
def regK {R : Type} (P : Program) (σ : zbz) (n : Nat) (c : Code) (h : Hint) (e : Env) (k : Env → M R) : M R := match c with
  | .region _ ops false => z8g P σ n ops ops.toList e k
  | .region _ ops true => match h with
    | .reg perm fl => regD P σ n ops perm fl e k
    | _ => fail
  | _ => fail
def zbh9 (id : Nat) : List (Nat × List Nat) → Option (List Nat)
  | [] => none
  | (i, l) :: r => bif Nat.beq i id then some l else zbh9 id r
def den (P : Program) (σ : zbz) (n : Nat) (R : List Nat) : Code → Hint → List (Nat × List Nat) → List Nat → Env → M Out
  | .skip, _, _, nl, e => ret (.nxt (zu8 nl e))
  | .label _, _, _, nl, e => ret (.nxt (zu8 nl e))
  | .region id ops d, h, _, nl, e => regK P σ n (.region id ops d) h e fun e' => ret (.nxt (zu8 nl e'))
  | .seq a b, .seq la ha hb, Γ, nl, e => bif zbsr a then regK P σ n a ha e fun e' => den P σ n R b hb Γ nl e'
    else zb (den P σ n R a ha Γ la e) fun o => nx o fun vs => den P σ n R b hb Γ nl (z0z la vs)
  | .cond c a b, .cond ha hb, Γ, nl, e => zbv (evO P e c) (den P σ n R a ha Γ nl e) (den P σ n R b hb Γ nl e)
  | .block id a, .blk ha, Γ, nl, e => zb (den P σ n R a ha ((id, nl) :: Γ) nl e) fun o => ret (zb9 id o)
  | .loop a, .loop l ha, Γ, _, e => zc7 zem (fun vs => den P σ n R a ha Γ l (z0z l vs)) (zu8 l e)
  | .exit id, _, Γ, _, e => match zbh9 id Γ with | some l => ret (.brk id (zu8 l e)) | none => fail
  | .ret, _, _, _, e => ret (.ret (zu8 R e))
  | .scope a, .scp ha, Γ, nl, e => den P σ n R a ha Γ nl e
  | _, _, _, _, _ => fail
def zqy : List ResultVar → List Nat
  | [] => []
  | .tmp t :: r => t :: zqy r
  | .cell a _ :: r => a :: zqy r
def resM (P : Program) (e : Env) : List ResultVar → (List V → M V) → M V
  | [], k => k []
  | .tmp t :: r, k => resM P e r fun l => k (e t :: l)
  | .cell a t :: r, k => match tk P t with
    | some .one => zb (ld1 (e a)) fun v => resM P e r fun l => k (v :: l)
    | some (.agg n) => zb (ldn n (e a)) fun v => resM P e r fun l => k (v :: l)
    | none => fail
def zcm (l : List V) : V := match l with
  | [v] => v
  | l => .tuple l.toArray
def envOf (args : List V) : Env := fun i => args.getD i undef
def zcp (o : Out) (k : List V → M V) : M V := match o with
  | .nxt vs => k vs
  | .ret vs => k vs
  | .brk _ _ => fail
def zde (P : Program) (σ : zbz) (f : Nat) (h : Hint) (args : List V) : M V := match P.funcs[f]? with
  | none => fail
  | some fn => match fn.body with
    | none => fail
    | some c => bif Nat.ble args.length fn.ntmps then
        zb (den P σ fn.ntmps (zqy fn.results.toList) c h [] (zqy fn.results.toList) (envOf args)) fun o => zcp o fun vs =>
          resM P (z0z (zqy fn.results.toList) vs) fn.results.toList fun l => ret (zcm l)
      else fail
variable {P : Program} {N : Nat} {w₀ : World} {ρ : Ren} {H : Heap} {w : World} {σ : zbz} {n : Nat}
def zbbs (l : List Nat) (vs : List V) (ρ : Ren) (a : Act) : Prop := ∀ j t, l[j]? = some t → VRel ρ (vs.getD j undef) (a.tmps.getD t undef)
theorem zlj {en : Env} {a : Act} (he : EnvRel n ρ en a) : ∀ (l : List Nat), zbbs l (zu8 l en) ρ a
  | [], j, t, h => by simp at h
  | x :: xs, 0, t, h => by simp at h; subst h; simpa [zu8] using he.slot x
  | x :: xs, j + 1, t, h => by
    have := zlj he xs j t (by simpa using h)
    simpa [zu8] using this
theorem z1a {a : Act} {vs : List V} : ∀ (l : List Nat) (j : Nat), (∀ i t, l[i]? = some t → VRel ρ (vs.getD (j + i) undef) (a.tmps.getD t undef)) → ∀ t, VRel ρ (zzf l j vs t) (a.tmps.getD t undef)
  | [], j, h, t => .undef _
  | x :: xs, j, h, t => by
    simp only [zzf]
    cases hb : Nat.beq t x with
    | true =>
      have := Nat.eq_of_beq_eq_true hb; subst this
      simpa using h 0 t rfl
    | false => exact z1a xs (j + 1) (fun i t' hi => by have := h (i + 1) t' (by simpa using hi); rwa [show j + (i + 1) = j + 1 + i by omega] at this) t
theorem zzo {l : List Nat} {vs : List V} {a : Act} (hs : a.tmps.size = n) (h : zbbs l vs ρ a) : EnvRel n ρ (z0z l vs) a :=
  ⟨hs, z1a l 0 fun i t hi => by simpa using h i t hi⟩
def Ends (R : List Nat) (Γ : List (Nat × List Nat)) (nl : List Nat) (o : Out) (ρ : Ren) (ex : Exit) (a : Act) : Prop := match o with
  | .nxt vs => ex = .normal ∧ zbbs nl vs ρ a
  | .brk id vs => ex = .exit id ∧ ∃ l, zbh9 id Γ = some l ∧ zbbs l vs ρ a
  | .ret vs => ex = .ret ∧ zbbs R vs ρ a
theorem zbbt {R : Type} (hσ : zhz P σ) (hG : P.globals.size ≤ N) {Q : Exit → Act → World → Prop} {r : R} {Hr : Heap} {k : Env → M R} {c : Code} {hint : Hint} {en : Env} {a : Act} (h : Rel N w₀ ρ H w) (he : EnvRel n ρ en a)
    (hl : regK P σ n c hint en k H = some (r, Hr))
    (hq : ∀ ρ' H' w' en' a', Rel N w₀ ρ' H' w' → EnvRel n ρ' en' a' → Ext ρ H w ρ' H' w' → a'.defers = a.defers → k en' H' = some (r, Hr) → Q .normal a' w') : c.wp P Q a w := by
  cases c <;> simp only [regK] at hl <;> first | exact (zo hl).elim | skip
  rename_i id ops d
  cases d with
  | false =>
    exact wp_region_list (z6k hσ hG ops ops.toList ρ H w en a h he hl hq)
  | true =>
    cases hint <;> simp only [regK] at hl <;> first | exact (zo hl).elim | skip
    exact zbki hσ hG h he hl hq
theorem zbo9 {c : V} {m1 m2 : M Out} {o : Out} {Hr : Heap} (h : zbv c m1 m2 H = some (o, Hr)) : (c = .bool true ∧ m1 H = some (o, Hr)) ∨ (c = .bool false ∧ m2 H = some (o, Hr)) := by
  unfold zbv at h
  split at h
  · exact .inl ⟨rfl, h⟩
  · exact .inr ⟨rfl, h⟩
  · exact (zo h).elim
theorem z2x {α β : Type} {m : M α} {k : α → M β} {r : β} {Hr : Heap} (h : zb m k H = some (r, Hr)) : ∃ a H1, m H = some (a, H1) ∧ k a H1 = some (r, Hr) := by
  unfold zb at h
  split at h
  · rename_i a H1 hm; exact ⟨a, H1, hm, h⟩
  · cases h
set_option maxHeartbeats 1000000 in
theorem zbnj (hσ : zhz P σ) (hG : P.globals.size ≤ N) (R : List Nat) : ∀ (c : Code) (hint : Hint) (Γ : List (Nat × List Nat)) (nl : List Nat) (ρ : Ren) (H : Heap) (w : World) (en : Env) (a : Act) (o : Out) (Hr : Heap) (Q : Exit → Act → World → Prop),
    Rel N w₀ ρ H w → EnvRel n ρ en a → den P σ n R c hint Γ nl en H = some (o, Hr) →
    (∀ ρ' w' a' ex, Rel N w₀ ρ' Hr w' → Ext ρ H w ρ' Hr w' → a'.tmps.size = n → a'.defers = a.defers → Ends R Γ nl o ρ' ex a' → Q ex a' w') → c.wp P Q a w := by
  intro c
  induction c with
  | skip =>
    intro hint Γ nl ρ H w en a o Hr Q h he hl hq
    simp only [den, ret] at hl; cases hl
    exact wp_skip (hq ρ w a .normal h (.refl _ _ _) he.size rfl ⟨rfl, zlj he nl⟩)
  | label l =>
    intro hint Γ nl ρ H w en a o Hr Q h he hl hq
    simp only [den, ret] at hl; cases hl
    exact wp_label (hq ρ w a .normal h (.refl _ _ _) he.size rfl ⟨rfl, zlj he nl⟩)
  | region id ops d =>
    intro hint Γ nl ρ H w en a o Hr Q h he hl hq
    simp only [den] at hl
    refine zbbt hσ hG h he hl fun ρ' H' w' en' a' q1 q2 q3 q4 q5 => ?_
    simp only [ret] at q5; cases q5
    exact hq ρ' w' a' .normal q1 q3 q2.size q4 ⟨rfl, zlj q2 nl⟩
  | seq x y ihx ihy =>
    intro hint Γ nl ρ H w en a o Hr Q h he hl hq
    cases hint <;> simp only [den] at hl <;> first | exact (zo hl).elim | skip
    rename_i la ha hb
    cases hr : zbsr x with
    | true =>
      rw [hr] at hl
      simp only [cond_true] at hl
      refine wp_seq (zbbt hσ hG h he hl fun ρ' H' w' en' a' q1 q2 q3 q4 q5 => ?_)
      exact ihy hb Γ nl ρ' H' w' en' a' o Hr Q q1 q2 q5 fun ρ2 w2 a2 ex r1 r2 r3 r4 r5 => hq ρ2 w2 a2 ex r1 (q3.trans r2) r3 (r4.trans q4) r5
    | false =>
      rw [hr] at hl
      simp only [cond_false] at hl
      obtain ⟨o1, H1, h1, h2⟩ := z2x hl
      refine wp_seq (ihx ha Γ la ρ H w en a o1 H1 _ h he h1 fun ρ' w' a' ex q1 q2 q3 q4 q5 => ?_)
      cases o1 with
      | nxt vs =>
        simp only [nx] at h2
        obtain ⟨rfl, hs⟩ := q5
        exact ihy hb Γ nl ρ' H1 w' (z0z la vs) a' o Hr Q q1 (zzo q3 hs) h2 fun ρ2 w2 a2 ex r1 r2 r3 r4 r5 => hq ρ2 w2 a2 ex r1 (q2.trans r2) r3 (r4.trans q4) r5
      | brk id vs =>
        simp only [nx, ret] at h2; cases h2
        obtain ⟨rfl, hs⟩ := q5
        exact hq ρ' w' a' _ q1 q2 q3 q4 ⟨rfl, hs⟩
      | ret vs =>
        simp only [nx, ret] at h2; cases h2
        obtain ⟨rfl, hs⟩ := q5
        exact hq ρ' w' a' _ q1 q2 q3 q4 ⟨rfl, hs⟩
  | cond cnd x y ihx ihy =>
    intro hint Γ nl ρ H w en a o Hr Q h he hl hq
    cases hint <;> simp only [den] at hl <;> first | exact (zo hl).elim | skip
    rename_i ha hb
    have hv := z2u hG h he cnd
    rcases zbo9 hl with ⟨h1, h2⟩ | ⟨h1, h2⟩
    · rw [h1] at hv
      exact wp_cond_true hv.bool_inv (ihx ha Γ nl ρ H w en a o Hr Q h he h2 hq)
    · rw [h1] at hv
      exact wp_cond_false hv.bool_inv (ihy hb Γ nl ρ H w en a o Hr Q h he h2 hq)
  | block id x ih =>
    intro hint Γ nl ρ H w en a o Hr Q h he hl hq
    cases hint <;> simp only [den] at hl <;> first | exact (zo hl).elim | skip
    rename_i ha
    obtain ⟨o1, H1, h1, h2⟩ := z2x hl
    simp only [ret] at h2; cases h2
    refine wp_block (ih ha ((id, nl) :: Γ) nl ρ H w en a o1 _ _ h he h1 fun ρ' w' a' ex q1 q2 q3 q4 q5 => ?_)
    cases o1 with
    | nxt vs =>
      obtain ⟨rfl, hs⟩ := q5
      exact hq ρ' w' a' _ q1 q2 q3 q4 ⟨rfl, hs⟩
    | brk id' vs =>
      obtain ⟨rfl, l, hl1, hs⟩ := q5
      simp only [Exit.inBlock]
      simp only [zbh9] at hl1
      by_cases hid : id' = id
      · subst hid
        have hbq : Nat.beq id' id' = true := by simp
        rw [hbq] at hl1; simp only [cond_true] at hl1; cases hl1
        rw [if_pos rfl]
        exact hq ρ' w' a' _ q1 q2 q3 q4 (by simp only [zb9, hbq, cond_true]; exact ⟨rfl, hs⟩)
      · rw [if_neg hid]
        rw [zbep (fun e => hid e.symm)] at hl1; simp only [cond_false] at hl1
        exact hq ρ' w' a' _ q1 q2 q3 q4 (by simp only [zb9, zbep hid, cond_false]; exact ⟨rfl, l, hl1, hs⟩)
    | ret vs =>
      obtain ⟨rfl, hs⟩ := q5
      exact hq ρ' w' a' _ q1 q2 q3 q4 ⟨rfl, hs⟩
  | loop x ih =>
    intro hint Γ nl ρ H w en a o Hr Q h he hl hq
    cases hint <;> simp only [den] at hl <;> first | exact (zo hl).elim | skip
    rename_i l ha
    have key : ∀ (m : Nat) (vs : List V) (ρ : Ren) (H : Heap) (w : World) (a : Act) (Q : Exit → Act → World → Prop), Rel N w₀ ρ H w → a.tmps.size = n → zbbs l vs ρ a → zc7 m (fun vs => den P σ n R x ha Γ l (z0z l vs)) vs H = some (o, Hr) →
        (∀ ρ' w' a' ex, Rel N w₀ ρ' Hr w' → Ext ρ H w ρ' Hr w' → a'.tmps.size = n → a'.defers = a.defers → (∀ vs, o ≠ .nxt vs) → Ends R Γ nl o ρ' ex a' → Q ex a' w') → Code.rounds P x Q m a w := by
      intro m
      induction m with
      | zero => intro vs ρ H w a Q _ _ _ hl _; simp only [zc7] at hl; exact (zo hl).elim
      | succ m ihm =>
        intro vs ρ H w a Q h hsz hs hl hq
        simp only [zc7] at hl
        obtain ⟨o1, H1, h1, h2⟩ := z2x hl
        rw [rounds_succ]
        refine ih ha Γ l ρ H w (z0z l vs) a o1 H1 _ h (zzo hsz hs) h1 fun ρ' w' a' ex q1 q2 q3 q4 q5 => ?_
        cases o1 with
        | nxt vs' =>
          obtain ⟨rfl, hs'⟩ := q5
          exact ihm vs' ρ' H1 w' a' Q q1 q3 hs' h2 fun ρ2 w2 a2 ex r1 r2 r3 r4 r5 r6 => hq ρ2 w2 a2 ex r1 (q2.trans r2) r3 (r4.trans q4) r5 r6
        | brk id vs' =>
          simp only [ret] at h2; cases h2
          obtain ⟨rfl, hs'⟩ := q5
          exact hq ρ' w' a' _ q1 q2 q3 q4 (by simp) ⟨rfl, hs'⟩
        | ret vs' =>
          simp only [ret] at h2; cases h2
          obtain ⟨rfl, hs'⟩ := q5
          exact hq ρ' w' a' _ q1 q2 q3 q4 (by simp) ⟨rfl, hs'⟩
    exact wp_loop_rounds zem (key zem (zu8 l en) ρ H w a Q h he.size (zlj he l) hl fun ρ' w' a' ex r1 r2 r3 r4 _ r6 => hq ρ' w' a' ex r1 r2 r3 r4 r6)
  | exit id =>
    intro hint Γ nl ρ H w en a o Hr Q h he hl hq
    simp only [den] at hl
    cases hf : zbh9 id Γ with
    | none => rw [hf] at hl; exact (zo hl).elim
    | some l =>
      rw [hf] at hl
      simp only [ret] at hl; cases hl
      exact wp_exit (hq ρ w a _ h (.refl _ _ _) he.size rfl ⟨rfl, l, hf, zlj he l⟩)
  | ret =>
    intro hint Γ nl ρ H w en a o Hr Q h he hl hq
    simp only [den, AM.ret] at hl; cases hl
    exact wp_ret (hq ρ w a _ h (.refl _ _ _) he.size rfl ⟨rfl, zlj he R⟩)
  | scope x ih =>
    intro hint Γ nl ρ H w en a o Hr Q h he hl hq
    cases hint <;> simp only [den] at hl <;> first | exact (zo hl).elim | skip
    rename_i ha
    refine wp_scope_straight (ih ha Γ nl ρ H w en a o Hr _ h he hl fun ρ' w' a' ex q1 q2 q3 q4 q5 => ?_)
    cases o with
    | nxt vs => obtain ⟨rfl, hs⟩ := q5; exact hq ρ' w' a' _ q1 q2 q3 q4 ⟨rfl, hs⟩
    | brk id vs => obtain ⟨rfl, hs⟩ := q5; exact hq ρ' w' a' _ q1 q2 q3 q4 ⟨rfl, hs⟩
    | ret vs => obtain ⟨rfl, hs⟩ := q5; exact hq ρ' w' a' _ q1 q2 q3 q4 ⟨rfl, hs⟩
  | rangeFunc f params assign body _ _ => intro hint Γ nl ρ H w en a o Hr Q h he hl hq; simp only [den] at hl; exact (zo hl).elim
  | goto l => intro hint Γ nl ρ H w en a o Hr Q h he hl hq; simp only [den] at hl; exact (zo hl).elim
  | refuse why => intro hint Γ nl ρ H w en a o Hr Q h he hl hq; simp only [den] at hl; exact (zo hl).elim
end Go.AM

/- Functions on the abstract machine are what the model's functions do. -/
namespace Go.AM
open Go.RowKit (Below)
variable {P : Program} {N : Nat} {w₀ : World} {ρ : Ren} {H : Heap} {w : World} {σ : zbz} {n : Nat}
theorem zbrf (h : Rel N w₀ ρ H w) {p p' r : V} {H' : Heap} {t : TypeId} (ht : tk P t = some .one) (hl : ld1 p H = some (r, H')) (hp : VRel ρ p p') :
    H' = H ∧ ∃ a r', p' = .pointer (some a) ∧ VRel ρ r r' ∧ (loadVar t a).run P w = .ok r' w := by
  obtain ⟨h1, r', h2, h3⟩ := zbek (P := P) h ht hl hp
  unfold ld1 at hl
  split at hl
  · obtain ⟨L, hL, rfl⟩ := hp.ptr_inv
    exact ⟨h1, _, r', rfl, h2, by simpa [Instr.loadAt, Instr.sureAddr] using h3⟩
  · cases hl
theorem zbrg (h : Rel N w₀ ρ H w) {p p' r : V} {H' : Heap} {t : TypeId} {m : Nat} (ht : tk P t = some (.agg m)) (hl : ldn m p H = some (r, H')) (hp : VRel ρ p p') :
    H' = H ∧ ∃ a r', p' = .pointer (some a) ∧ VRel ρ r r' ∧ (loadVar t a).run P w = .ok r' w := by
  obtain ⟨h1, r', h2, h3⟩ := zbel (P := P) h ht hl hp
  unfold ldn at hl
  split at hl
  · obtain ⟨L, hL, rfl⟩ := hp.ptr_inv
    exact ⟨h1, _, r', rfl, h2, by simpa [Instr.loadAt, Instr.sureAddr] using h3⟩
  · cases hl
def z8u (tmps : Array V) : ResultVar → Sem V
  | .tmp t => pure (tmps.getD t undef)
  | .cell a t => do loadVar t (← asAddr (tmps.getD a undef))
theorem z6q (h : Rel N w₀ ρ H w) {e : Env} {a : Act} (he : ∀ t, VRel ρ (e t) (a.tmps.getD t undef)) : ∀ (rs : List ResultVar) (k : List V → M V) (r : V) (H' : Heap), resM P e rs k H = some (r, H') →
    ∃ l l', LRel ρ l l' ∧ k l H = some (r, H') ∧ (rs.mapM (z8u a.tmps)).run P w = .ok l' w
  | [], k, r, H', hl => ⟨[], [], .nil, hl, by simp⟩
  | .tmp t :: rs, k, r, H', hl => by
    simp only [resM] at hl
    obtain ⟨l, l', h1, h2, h3⟩ := z6q h he rs _ r H' hl
    exact ⟨e t :: l, a.tmps.getD t undef :: l', .cons (he t) h1, h2, by simp [z8u, h3]⟩
  | .cell x t :: rs, k, r, H', hl => by
    simp only [resM] at hl
    cases hk : tk P t with
    | none => rw [hk] at hl; exact (zo hl).elim
    | some kd =>
      rw [hk] at hl
      cases kd with
      | one =>
        simp only at hl
        obtain ⟨v, H1, g1, g2⟩ := z2x hl
        obtain ⟨e1, ad, v', q1, q2, q3⟩ := zbrf (P := P) h hk g1 (he x)
        rw [e1] at g2
        obtain ⟨l, l', h1, h2, h3⟩ := z6q h he rs _ r H' g2
        exact ⟨v :: l, v' :: l', .cons q2 h1, h2, by simp [z8u, q1, asAddr, q3, h3]⟩
      | agg m =>
        simp only at hl
        obtain ⟨v, H1, g1, g2⟩ := z2x hl
        obtain ⟨e1, ad, v', q1, q2, q3⟩ := zbrg (P := P) h hk g1 (he x)
        rw [e1] at g2
        obtain ⟨l, l', h1, h2, h3⟩ := z6q h he rs _ r H' g2
        exact ⟨v :: l, v' :: l', .cons q2 h1, h2, by simp [z8u, q1, asAddr, q3, h3]⟩
theorem zbpa {l l' : List V} (h : LRel ρ l l') : VRel ρ (zcm l) (if hs : l'.toArray.size = 1 then l'.toArray[0] else .tuple l'.toArray) := by
  cases h with
  | nil => simp [zcm]; exact .undef _
  | cons h1 h2 =>
    cases h2 with
    | nil => simpa [zcm] using h1
    | cons h2 h3 =>
      rw [dif_neg (by simp)]
      simp only [zcm]
      exact .tuple' (by simpa using LRel.cons h1 (LRel.cons h2 h3))
theorem zbnk {args args' : List V} (h : LRel ρ args args') (m : Nat) (t : Nat) : VRel ρ (envOf args t) ((args'.toArray ++ Array.replicate m undef).getD t undef) := by
  unfold envOf
  rw [Array.getD_eq_getD_getElem?, List.getD_eq_getElem?_getD]
  by_cases ht : t < args.length
  · obtain ⟨v', h1, h2⟩ := h.get t args[t] (by simp [ht])
    have hl := h.length
    rw [List.getElem?_eq_getElem ht]
    simp only [Option.getD_some]
    rw [Array.getElem?_append, if_pos (by simp; omega)]
    simp only [List.getElem?_toArray, h1, Option.getD_some]
    exact h2
  · rw [List.getElem?_eq_none (by omega)]
    exact .undef _
theorem zbnl {f : FuncId} {hint : Hint} (hσ : zhz P σ) : SimF P f (zde P σ f hint) := by
  intro N w₀ ρ H w args args' r H' hG h ha hl
  unfold zde at hl
  cases hf : P.funcs[f]? with
  | none => rw [hf] at hl; exact (zo hl).elim
  | some fn =>
    rw [hf] at hl
    simp only at hl
    cases hb : fn.body with
    | none => rw [hb] at hl; exact (zo hl).elim
    | some c =>
      rw [hb] at hl
      simp only at hl
      cases hle : Nat.ble args.length fn.ntmps with
      | false => rw [hle] at hl; simp only [cond_false] at hl; exact (zo hl).elim
      | true =>
        rw [hle] at hl
        simp only [cond_true] at hl
        have hlen : args.length ≤ fn.ntmps := Nat.le_of_ble_eq_true hle
        have hal := ha.length
        obtain ⟨o, H1, h1, h2⟩ := z2x hl
        refine calls_of_wp hf hb ?_
        have he : EnvRel fn.ntmps ρ (envOf args) { tmps := args'.toArray ++ Array.replicate (fn.ntmps - args'.toArray.size) undef, defers := [] } :=
          ⟨by simp; omega, fun t => zbnk ha _ t⟩
        have fin : ∀ (vs : List V) (ρ' : Ren) (w' : World) (a' : Act), Rel N w₀ ρ' H1 w' → Ext ρ H w ρ' H1 w' → a'.defers = [] → zbbs (zqy fn.results.toList) vs ρ' a' →
            (resM P (z0z (zqy fn.results.toList) vs) fn.results.toList fun l => ret (zcm l)) H1 = some (r, H') →
            a'.defers = [] ∧ ∃ v, (results fn a'.tmps).run P w' = .ok v w' ∧ ∃ r', Ending.returned v = .returned r' ∧ zxo N w₀ ρ H w r H' r' w' := by
          intro vs ρ' w' a' q1 q2 q3 q4 q5
          obtain ⟨l, l', g1, g2, g3⟩ := z6q (P := P) q1 (zzo (n := a'.tmps.size) rfl q4).slot fn.results.toList _ r H' q5
          simp only [ret] at g2; cases g2
          refine ⟨q3, _, ?_, _, rfl, ρ', zbpa g1, q1, q2⟩
          have hm := z00 (P := P) (z8u a'.tmps) fn.results l' w' g3
          have heq : results fn a'.tmps = (do
            let vs ← fn.results.mapM (z8u a'.tmps)
            pure (if h : vs.size = 1 then vs[0] else .tuple vs)) := by
            unfold results
            congr 1
          rw [heq]
          simp only [Sem.run_bind, hm, Result.andThen_ok, Sem.run_pure]
        refine zbnj hσ hG (zqy fn.results.toList) c hint [] (zqy fn.results.toList) ρ H w (envOf args) _ o H1 _ h he h1 fun ρ' w' a' ex q1 q2 q3 q4 q5 => ?_
        cases o with
        | nxt vs => obtain ⟨rfl, hs⟩ := q5; exact fin vs ρ' w' a' q1 q2 q4 hs h2
        | ret vs => obtain ⟨rfl, hs⟩ := q5; exact fin vs ρ' w' a' q1 q2 q4 hs h2
        | brk id vs => simp only [zcp] at h2; exact (zo h2).elim
def zblo : List (Nat × (List V → M V)) → zbz
  | [] => fun _ _ => fail
  | (g, F) :: rest => fun f => bif Nat.beq f g then F else zblo rest f
def zb3 (P : Program) (f : Nat) (F : List V → M V) : Prop := z8p P f = true ∧ SimF P f F
theorem zbkj : zhz P (zblo []) := fun f args H r H' h => by simp [zblo, fail] at h
theorem zbw {f : Nat} {hint : Hint} {G : List V → M V} (hp : z8p P f = true) (hσ : zhz P σ) (h : ∀ args H r H', G args H = some (r, H') → zde P σ f hint args H = some (r, H')) : zb3 P f G :=
  ⟨hp, fun N w₀ ρ H w args args' r H' hG hR ha hl => zbnl hσ N w₀ ρ H w args args' r H' hG hR ha (h args H r H' hl)⟩
end Go.AM

/- What the printed functions are written with. -/
namespace Go.AM
def zc (vs : List V) (i : Nat) : V := vs.getD i undef
def strV (a : V) : Option V := match a with | .string s => some (.string s) | _ => none
def zhc (a : V) : Option V := match a with | .string s => some (i64 s.size) | _ => none
def zb4 (a : V) : Option V := match a with | .slice _ n _ => some (i64 n) | _ => none
def zgn {R : Type} (m : M V) (k : Heap → V → Heap → M R) : M R := fun H => match m H with | some (v, H') => k H v H' H' | none => none
def z1b {R : Type} (n : Nat) (k : Nat → Heap → M R) : M R := fun H => k H.next (zt9 H n) (zt9 H n)
def zr6 {R : Type} (k : Heap → M R) : M R := fun H => k H H
abbrev noC : zbz := zblo []
def ovr : List (Nat × (List V → M V)) → zbz → zbz
  | [], S => S
  | (g, F) :: rest, S => fun f => bif Nat.beq f g then F else ovr rest S f
theorem zn {P : Program} {S : zbz} {g : Nat} {F : List V → M V} {l : List (Nat × (List V → M V))} (h : zb3 P g F) (hl : zhz P (ovr l S)) : zhz P (ovr ((g, F) :: l) S) := by
  intro f args H r H' hr
  simp only [ovr] at hr ⊢
  cases hb : Nat.beq f g with
  | true =>
    have := Nat.eq_of_beq_eq_true hb; subst this
    simp only [cond_true]; exact h
  | false =>
    rw [hb] at hr
    simp only [cond_false] at hr ⊢
    exact hl f args H r H' hr
theorem z8 {P : Program} : zhz P (ovr [] noC) := zbkj
theorem zgc {P : Program} {S : zbz} (h : zhz P S) : zhz P (ovr [] S) := h
@[simp] theorem zbua (g : Nat) (F : List V → M V) (l : List (Nat × (List V → M V))) (S : zbz) (x y : Array V) (args : List V) : zod (ovr ((g, F) :: l) S) (.func (.func g) x y) args = F (x.toList ++ (args ++ y.toList)) := by
  simp [zod, ovr]
end Go.AM
