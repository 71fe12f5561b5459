/- Code and functions on the abstract machine. -/
import Derived.Test.YtfcjpopnibhagaaDoorAmReg8
import Derived.LoopN
import Derived.Scope
set_option linter.all false
namespace Go.AM
open Go.RowKit (Below)

inductive Hint where
  | leaf
  | reg (perm fl : List Nat)
  | seq (la : List Nat) (a b : Hint)
  | cond (a b : Hint)
  | blk (a : Hint)
  | loop (l : List Nat) (a : Hint)
  | scp (a : Hint)

def isReg : Code → Bool | .region _ _ _ => true | _ => false

def regK {R : Type} (P : Program) (σ : Calls') (n : Nat) (c : Code) (h : Hint) (e : Env) (k : Env → M R) : M R := match c with
  | .region _ ops false => runOps P σ n ops ops.toList e k
  | .region _ ops true => match h with
    | .reg perm fl => regD P σ n ops perm fl e k
    | _ => fail
  | _ => fail

def findL (id : Nat) : List (Nat × List Nat) → Option (List Nat)
  | [] => none
  | (i, l) :: r => bif Nat.beq i id then some l else findL id r

/-- what code computes; R: the slots of the results; Γ: what is handed on at an exit; nl: what is handed on at the end -/
def den (P : Program) (σ : Calls') (n : Nat) (R : List Nat) : Code → Hint → List (Nat × List Nat) → List Nat → Env → M Out
  | .skip, _, _, nl, e => ret (.nxt (gather nl e))
  | .label _, _, _, nl, e => ret (.nxt (gather nl e))
  | .region id ops d, h, _, nl, e => regK P σ n (.region id ops d) h e fun e' => ret (.nxt (gather nl e'))
  | .seq a b, .seq la ha hb, Γ, nl, e => bif isReg a then regK P σ n a ha e fun e' => den P σ n R b hb Γ nl e'
    else bnd (den P σ n R a ha Γ la e) fun o => nx o fun vs => den P σ n R b hb Γ nl (expand la vs)
  | .cond c a b, .cond ha hb, Γ, nl, e => condM (evO P e c) (den P σ n R a ha Γ nl e) (den P σ n R b hb Γ nl e)
  | .block id a, .blk ha, Γ, nl, e => bnd (den P σ n R a ha ((id, nl) :: Γ) nl e) fun o => ret (unblk id o)
  | .loop a, .loop l ha, Γ, _, e => loopM FUEL (fun vs => den P σ n R a ha Γ l (expand l vs)) (gather l e)
  | .exit id, _, Γ, _, e => match findL id Γ with | some l => ret (.brk id (gather l e)) | none => fail
  | .ret, _, _, _, e => ret (.ret (gather R e))
  | .scope a, .scp ha, Γ, nl, e => den P σ n R a ha Γ nl e
  | _, _, _, _, _ => fail

def resSlots : List ResultVar → List Nat
  | [] => []
  | .tmp t :: r => t :: resSlots r
  | .cell a _ :: r => a :: resSlots r

def resM (P : Program) (e : Env) : List ResultVar → (List V → M V) → M V
  | [], k => k []
  | .tmp t :: r, k => resM P e r fun l => k (e t :: l)
  | .cell a t :: r, k => match tk P t with
    | some .one => bnd (ld1 (e a)) fun v => resM P e r fun l => k (v :: l)
    | some (.agg n) => bnd (ldn n (e a)) fun v => resM P e r fun l => k (v :: l)
    | none => fail

def outV (l : List V) : V := match l with
  | [v] => v
  | l => .tuple l.toArray

def envOf (args : List V) : Env := fun i => args.getD i undef

def finM (o : Out) (k : List V → M V) : M V := match o with
  | .nxt vs => k vs
  | .ret vs => k vs
  | .brk _ _ => fail

/-- what a function computes -/
def funM (P : Program) (σ : Calls') (f : Nat) (h : Hint) (args : List V) : M V := match P.funcs[f]? with
  | none => fail
  | some fn => match fn.body with
    | none => fail
    | some c => bif Nat.ble args.length fn.ntmps then
        bnd (den P σ fn.ntmps (resSlots fn.results.toList) c h [] (resSlots fn.results.toList) (envOf args)) fun o => finM o fun vs =>
          resM P (expand (resSlots fn.results.toList) vs) fn.results.toList fun l => ret (outV l)
      else fail

variable {P : Program} {N : Nat} {w₀ : World} {ρ : Ren} {H : Heap} {w : World} {σ : Calls'} {n : Nat}

/-- slots that are handed on -/
def Slots (l : List Nat) (vs : List V) (ρ : Ren) (a : Act) : Prop := ∀ j t, l[j]? = some t → VRel ρ (vs.getD j undef) (a.tmps.getD t undef)

theorem slots_gather {en : Env} {a : Act} (he : EnvRel n ρ en a) : ∀ (l : List Nat), Slots l (gather l en) ρ a
  | [], j, t, h => by simp at h
  | x :: xs, 0, t, h => by simp at h; subst h; simpa [gather] using he.slot x
  | x :: xs, j + 1, t, h => by
    have := slots_gather he xs j t (by simpa using h)
    simpa [gather] using this

theorem expandFrom_rel {a : Act} {vs : List V} : ∀ (l : List Nat) (j : Nat), (∀ i t, l[i]? = some t → VRel ρ (vs.getD (j + i) undef) (a.tmps.getD t undef)) → ∀ t, VRel ρ (expandFrom l j vs t) (a.tmps.getD t undef)
  | [], j, h, t => .undef _
  | x :: xs, j, h, t => by
    simp only [expandFrom]
    cases hb : Nat.beq t x with
    | true =>
      have := Nat.eq_of_beq_eq_true hb; subst this
      simpa using h 0 t rfl
    | false => exact expandFrom_rel xs (j + 1) (fun i t' hi => by have := h (i + 1) t' (by simpa using hi); rwa [show j + (i + 1) = j + 1 + i by omega] at this) t

theorem slots_expand {l : List Nat} {vs : List V} {a : Act} (hs : a.tmps.size = n) (h : Slots l vs ρ a) : EnvRel n ρ (expand l vs) a :=
  ⟨hs, expandFrom_rel l 0 fun i t hi => by simpa using h i t hi⟩

/-- how code ends -/
def Ends (R : List Nat) (Γ : List (Nat × List Nat)) (nl : List Nat) (o : Out) (ρ : Ren) (ex : Exit) (a : Act) : Prop := match o with
  | .nxt vs => ex = .normal ∧ Slots nl vs ρ a
  | .brk id vs => ex = .exit id ∧ ∃ l, findL id Γ = some l ∧ Slots l vs ρ a
  | .ret vs => ex = .ret ∧ Slots R vs ρ a

theorem regK_sound {R : Type} (hσ : SimAll P σ) (hG : P.globals.size ≤ N) {Q : Exit → Act → World → Prop} {r : R} {Hr : Heap} {k : Env → M R} {c : Code} {hint : Hint} {en : Env} {a : Act} (h : Rel N w₀ ρ H w) (he : EnvRel n ρ en a)
    (hl : regK P σ n c hint en k H = some (r, Hr))
    (hq : ∀ ρ' H' w' en' a', Rel N w₀ ρ' H' w' → EnvRel n ρ' en' a' → Ext ρ H w ρ' H' w' → a'.defers = a.defers → k en' H' = some (r, Hr) → Q .normal a' w') : c.wp P Q a w := by
  cases c <;> simp only [regK] at hl <;> first | exact (fail_ne hl).elim | skip
  rename_i id ops d
  cases d with
  | false =>
    exact wp_region_list (runOps_sound hσ hG ops ops.toList ρ H w en a h he hl hq)
  | true =>
    cases hint <;> simp only [regK] at hl <;> first | exact (fail_ne hl).elim | skip
    exact regD_sound hσ hG h he hl hq

theorem cond_inv {c : V} {m1 m2 : M Out} {o : Out} {Hr : Heap} (h : condM c m1 m2 H = some (o, Hr)) : (c = .bool true ∧ m1 H = some (o, Hr)) ∨ (c = .bool false ∧ m2 H = some (o, Hr)) := by
  unfold condM at h
  split at h
  · exact .inl ⟨rfl, h⟩
  · exact .inr ⟨rfl, h⟩
  · exact (fail_ne h).elim

theorem bnd_inv {α β : Type} {m : M α} {k : α → M β} {r : β} {Hr : Heap} (h : bnd m k H = some (r, Hr)) : ∃ a H1, m H = some (a, H1) ∧ k a H1 = some (r, Hr) := by
  unfold bnd at h
  split at h
  · rename_i a H1 hm; exact ⟨a, H1, hm, h⟩
  · cases h

set_option maxHeartbeats 1000000 in
theorem den_sound (hσ : SimAll P σ) (hG : P.globals.size ≤ N) (R : List Nat) : ∀ (c : Code) (hint : Hint) (Γ : List (Nat × List Nat)) (nl : List Nat) (ρ : Ren) (H : Heap) (w : World) (en : Env) (a : Act) (o : Out) (Hr : Heap) (Q : Exit → Act → World → Prop),
    Rel N w₀ ρ H w → EnvRel n ρ en a → den P σ n R c hint Γ nl en H = some (o, Hr) →
    (∀ ρ' w' a' ex, Rel N w₀ ρ' Hr w' → Ext ρ H w ρ' Hr w' → a'.tmps.size = n → a'.defers = a.defers → Ends R Γ nl o ρ' ex a' → Q ex a' w') → c.wp P Q a w := by
  intro c
  induction c with
  | skip =>
    intro hint Γ nl ρ H w en a o Hr Q h he hl hq
    simp only [den, ret] at hl; cases hl
    exact wp_skip (hq ρ w a .normal h (.refl _ _ _) he.size rfl ⟨rfl, slots_gather he nl⟩)
  | label l =>
    intro hint Γ nl ρ H w en a o Hr Q h he hl hq
    simp only [den, ret] at hl; cases hl
    exact wp_label (hq ρ w a .normal h (.refl _ _ _) he.size rfl ⟨rfl, slots_gather he nl⟩)
  | region id ops d =>
    intro hint Γ nl ρ H w en a o Hr Q h he hl hq
    simp only [den] at hl
    refine regK_sound hσ hG h he hl fun ρ' H' w' en' a' q1 q2 q3 q4 q5 => ?_
    simp only [ret] at q5; cases q5
    exact hq ρ' w' a' .normal q1 q3 q2.size q4 ⟨rfl, slots_gather q2 nl⟩
  | seq x y ihx ihy =>
    intro hint Γ nl ρ H w en a o Hr Q h he hl hq
    cases hint <;> simp only [den] at hl <;> first | exact (fail_ne hl).elim | skip
    rename_i la ha hb
    cases hr : isReg x with
    | true =>
      rw [hr] at hl
      simp only [cond_true] at hl
      refine wp_seq (regK_sound hσ hG h he hl fun ρ' H' w' en' a' q1 q2 q3 q4 q5 => ?_)
      exact ihy hb Γ nl ρ' H' w' en' a' o Hr Q q1 q2 q5 fun ρ2 w2 a2 ex r1 r2 r3 r4 r5 => hq ρ2 w2 a2 ex r1 (q3.trans r2) r3 (r4.trans q4) r5
    | false =>
      rw [hr] at hl
      simp only [cond_false] at hl
      obtain ⟨o1, H1, h1, h2⟩ := bnd_inv hl
      refine wp_seq (ihx ha Γ la ρ H w en a o1 H1 _ h he h1 fun ρ' w' a' ex q1 q2 q3 q4 q5 => ?_)
      cases o1 with
      | nxt vs =>
        simp only [nx] at h2
        obtain ⟨rfl, hs⟩ := q5
        exact ihy hb Γ nl ρ' H1 w' (expand la vs) a' o Hr Q q1 (slots_expand q3 hs) h2 fun ρ2 w2 a2 ex r1 r2 r3 r4 r5 => hq ρ2 w2 a2 ex r1 (q2.trans r2) r3 (r4.trans q4) r5
      | brk id vs =>
        simp only [nx, ret] at h2; cases h2
        obtain ⟨rfl, hs⟩ := q5
        exact hq ρ' w' a' _ q1 q2 q3 q4 ⟨rfl, hs⟩
      | ret vs =>
        simp only [nx, ret] at h2; cases h2
        obtain ⟨rfl, hs⟩ := q5
        exact hq ρ' w' a' _ q1 q2 q3 q4 ⟨rfl, hs⟩
  | cond cnd x y ihx ihy =>
    intro hint Γ nl ρ H w en a o Hr Q h he hl hq
    cases hint <;> simp only [den] at hl <;> first | exact (fail_ne hl).elim | skip
    rename_i ha hb
    have hv := evO_rel hG h he cnd
    rcases cond_inv hl with ⟨h1, h2⟩ | ⟨h1, h2⟩
    · rw [h1] at hv
      exact wp_cond_true hv.bool_inv (ihx ha Γ nl ρ H w en a o Hr Q h he h2 hq)
    · rw [h1] at hv
      exact wp_cond_false hv.bool_inv (ihy hb Γ nl ρ H w en a o Hr Q h he h2 hq)
  | block id x ih =>
    intro hint Γ nl ρ H w en a o Hr Q h he hl hq
    cases hint <;> simp only [den] at hl <;> first | exact (fail_ne hl).elim | skip
    rename_i ha
    obtain ⟨o1, H1, h1, h2⟩ := bnd_inv hl
    simp only [ret] at h2; cases h2
    refine wp_block (ih ha ((id, nl) :: Γ) nl ρ H w en a o1 _ _ h he h1 fun ρ' w' a' ex q1 q2 q3 q4 q5 => ?_)
    cases o1 with
    | nxt vs =>
      obtain ⟨rfl, hs⟩ := q5
      exact hq ρ' w' a' _ q1 q2 q3 q4 ⟨rfl, hs⟩
    | brk id' vs =>
      obtain ⟨rfl, l, hl1, hs⟩ := q5
      simp only [Exit.inBlock]
      simp only [findL] at hl1
      by_cases hid : id' = id
      · subst hid
        have hbq : Nat.beq id' id' = true := by simp
        rw [hbq] at hl1; simp only [cond_true] at hl1; cases hl1
        rw [if_pos rfl]
        exact hq ρ' w' a' _ q1 q2 q3 q4 (by simp only [unblk, hbq, cond_true]; exact ⟨rfl, hs⟩)
      · rw [if_neg hid]
        rw [beq_f (fun e => hid e.symm)] at hl1; simp only [cond_false] at hl1
        exact hq ρ' w' a' _ q1 q2 q3 q4 (by simp only [unblk, beq_f hid, cond_false]; exact ⟨rfl, l, hl1, hs⟩)
    | ret vs =>
      obtain ⟨rfl, hs⟩ := q5
      exact hq ρ' w' a' _ q1 q2 q3 q4 ⟨rfl, hs⟩
  | loop x ih =>
    intro hint Γ nl ρ H w en a o Hr Q h he hl hq
    cases hint <;> simp only [den] at hl <;> first | exact (fail_ne hl).elim | skip
    rename_i l ha
    have key : ∀ (m : Nat) (vs : List V) (ρ : Ren) (H : Heap) (w : World) (a : Act) (Q : Exit → Act → World → Prop), Rel N w₀ ρ H w → a.tmps.size = n → Slots l vs ρ a → loopM m (fun vs => den P σ n R x ha Γ l (expand l vs)) vs H = some (o, Hr) →
        (∀ ρ' w' a' ex, Rel N w₀ ρ' Hr w' → Ext ρ H w ρ' Hr w' → a'.tmps.size = n → a'.defers = a.defers → (∀ vs, o ≠ .nxt vs) → Ends R Γ nl o ρ' ex a' → Q ex a' w') → Code.rounds P x Q m a w := by
      intro m
      induction m with
      | zero => intro vs ρ H w a Q _ _ _ hl _; simp only [loopM] at hl; exact (fail_ne hl).elim
      | succ m ihm =>
        intro vs ρ H w a Q h hsz hs hl hq
        simp only [loopM] at hl
        obtain ⟨o1, H1, h1, h2⟩ := bnd_inv hl
        rw [rounds_succ]
        refine ih ha Γ l ρ H w (expand l vs) a o1 H1 _ h (slots_expand hsz hs) h1 fun ρ' w' a' ex q1 q2 q3 q4 q5 => ?_
        cases o1 with
        | nxt vs' =>
          obtain ⟨rfl, hs'⟩ := q5
          exact ihm vs' ρ' H1 w' a' Q q1 q3 hs' h2 fun ρ2 w2 a2 ex r1 r2 r3 r4 r5 r6 => hq ρ2 w2 a2 ex r1 (q2.trans r2) r3 (r4.trans q4) r5 r6
        | brk id vs' =>
          simp only [ret] at h2; cases h2
          obtain ⟨rfl, hs'⟩ := q5
          exact hq ρ' w' a' _ q1 q2 q3 q4 (by simp) ⟨rfl, hs'⟩
        | ret vs' =>
          simp only [ret] at h2; cases h2
          obtain ⟨rfl, hs'⟩ := q5
          exact hq ρ' w' a' _ q1 q2 q3 q4 (by simp) ⟨rfl, hs'⟩
    exact wp_loop_rounds FUEL (key FUEL (gather l en) ρ H w a Q h he.size (slots_gather he l) hl fun ρ' w' a' ex r1 r2 r3 r4 _ r6 => hq ρ' w' a' ex r1 r2 r3 r4 r6)
  | exit id =>
    intro hint Γ nl ρ H w en a o Hr Q h he hl hq
    simp only [den] at hl
    cases hf : findL id Γ with
    | none => rw [hf] at hl; exact (fail_ne hl).elim
    | some l =>
      rw [hf] at hl
      simp only [ret] at hl; cases hl
      exact wp_exit (hq ρ w a _ h (.refl _ _ _) he.size rfl ⟨rfl, l, hf, slots_gather he l⟩)
  | ret =>
    intro hint Γ nl ρ H w en a o Hr Q h he hl hq
    simp only [den, AM.ret] at hl; cases hl
    exact wp_ret (hq ρ w a _ h (.refl _ _ _) he.size rfl ⟨rfl, slots_gather he R⟩)
  | scope x ih =>
    intro hint Γ nl ρ H w en a o Hr Q h he hl hq
    cases hint <;> simp only [den] at hl <;> first | exact (fail_ne hl).elim | skip
    rename_i ha
    refine wp_scope_straight (ih ha Γ nl ρ H w en a o Hr _ h he hl fun ρ' w' a' ex q1 q2 q3 q4 q5 => ?_)
    cases o with
    | nxt vs => obtain ⟨rfl, hs⟩ := q5; exact hq ρ' w' a' _ q1 q2 q3 q4 ⟨rfl, hs⟩
    | brk id vs => obtain ⟨rfl, hs⟩ := q5; exact hq ρ' w' a' _ q1 q2 q3 q4 ⟨rfl, hs⟩
    | ret vs => obtain ⟨rfl, hs⟩ := q5; exact hq ρ' w' a' _ q1 q2 q3 q4 ⟨rfl, hs⟩
  | rangeFunc f params assign body _ _ => intro hint Γ nl ρ H w en a o Hr Q h he hl hq; simp only [den] at hl; exact (fail_ne hl).elim
  | goto l => intro hint Γ nl ρ H w en a o Hr Q h he hl hq; simp only [den] at hl; exact (fail_ne hl).elim
  | refuse why => intro hint Γ nl ρ H w en a o Hr Q h he hl hq; simp only [den] at hl; exact (fail_ne hl).elim

end Go.AM
