/- Functions on the abstract machine are what the model's functions do. -/
import Derived.Test.YtfcjpopnibhagaaDoorAmCode
set_option linter.all false
namespace Go.AM
open Go.RowKit (Below)

variable {P : Program} {N : Nat} {w₀ : World} {ρ : Ren} {H : Heap} {w : World} {σ : Calls'} {n : Nat}

theorem ld1_var (h : Rel N w₀ ρ H w) {p p' r : V} {H' : Heap} {t : TypeId} (ht : tk P t = some .one) (hl : ld1 p H = some (r, H')) (hp : VRel ρ p p') :
    H' = H ∧ ∃ a r', p' = .pointer (some a) ∧ VRel ρ r r' ∧ (loadVar t a).run P w = .ok r' w := by
  obtain ⟨h1, r', h2, h3⟩ := ld1_sound (P := P) h ht hl hp
  unfold ld1 at hl
  split at hl
  · obtain ⟨L, hL, rfl⟩ := hp.ptr_inv
    exact ⟨h1, _, r', rfl, h2, by simpa [Instr.loadAt, Instr.sureAddr] using h3⟩
  · cases hl

theorem ldn_var (h : Rel N w₀ ρ H w) {p p' r : V} {H' : Heap} {t : TypeId} {m : Nat} (ht : tk P t = some (.agg m)) (hl : ldn m p H = some (r, H')) (hp : VRel ρ p p') :
    H' = H ∧ ∃ a r', p' = .pointer (some a) ∧ VRel ρ r r' ∧ (loadVar t a).run P w = .ok r' w := by
  obtain ⟨h1, r', h2, h3⟩ := ldn_sound (P := P) h ht hl hp
  unfold ldn at hl
  split at hl
  · obtain ⟨L, hL, rfl⟩ := hp.ptr_inv
    exact ⟨h1, _, r', rfl, h2, by simpa [Instr.loadAt, Instr.sureAddr] using h3⟩
  · cases hl

def oneRes (tmps : Array V) : ResultVar → Sem V
  | .tmp t => pure (tmps.getD t undef)
  | .cell a t => do loadVar t (← asAddr (tmps.getD a undef))

theorem resM_run (h : Rel N w₀ ρ H w) {e : Env} {a : Act} (he : ∀ t, VRel ρ (e t) (a.tmps.getD t undef)) : ∀ (rs : List ResultVar) (k : List V → M V) (r : V) (H' : Heap), resM P e rs k H = some (r, H') →
    ∃ l l', LRel ρ l l' ∧ k l H = some (r, H') ∧ (rs.mapM (oneRes a.tmps)).run P w = .ok l' w
  | [], k, r, H', hl => ⟨[], [], .nil, hl, by simp⟩
  | .tmp t :: rs, k, r, H', hl => by
    simp only [resM] at hl
    obtain ⟨l, l', h1, h2, h3⟩ := resM_run h he rs _ r H' hl
    exact ⟨e t :: l, a.tmps.getD t undef :: l', .cons (he t) h1, h2, by simp [oneRes, h3]⟩
  | .cell x t :: rs, k, r, H', hl => by
    simp only [resM] at hl
    cases hk : tk P t with
    | none => rw [hk] at hl; exact (fail_ne hl).elim
    | some kd =>
      rw [hk] at hl
      cases kd with
      | one =>
        simp only at hl
        obtain ⟨v, H1, g1, g2⟩ := bnd_inv hl
        obtain ⟨e1, ad, v', q1, q2, q3⟩ := ld1_var (P := P) h hk g1 (he x)
        rw [e1] at g2
        obtain ⟨l, l', h1, h2, h3⟩ := resM_run h he rs _ r H' g2
        exact ⟨v :: l, v' :: l', .cons q2 h1, h2, by simp [oneRes, q1, asAddr, q3, h3]⟩
      | agg m =>
        simp only at hl
        obtain ⟨v, H1, g1, g2⟩ := bnd_inv hl
        obtain ⟨e1, ad, v', q1, q2, q3⟩ := ldn_var (P := P) h hk g1 (he x)
        rw [e1] at g2
        obtain ⟨l, l', h1, h2, h3⟩ := resM_run h he rs _ r H' g2
        exact ⟨v :: l, v' :: l', .cons q2 h1, h2, by simp [oneRes, q1, asAddr, q3, h3]⟩

theorem outV_rel {l l' : List V} (h : LRel ρ l l') : VRel ρ (outV l) (if hs : l'.toArray.size = 1 then l'.toArray[0] else .tuple l'.toArray) := by
  cases h with
  | nil => simp [outV]; exact .undef _
  | cons h1 h2 =>
    cases h2 with
    | nil => simpa [outV] using h1
    | cons h2 h3 =>
      rw [dif_neg (by simp)]
      simp only [outV]
      exact .tuple' (by simpa using LRel.cons h1 (LRel.cons h2 h3))

theorem envOf_rel {args args' : List V} (h : LRel ρ args args') (m : Nat) (t : Nat) : VRel ρ (envOf args t) ((args'.toArray ++ Array.replicate m undef).getD t undef) := by
  unfold envOf
  rw [Array.getD_eq_getD_getElem?, List.getD_eq_getElem?_getD]
  by_cases ht : t < args.length
  · obtain ⟨v', h1, h2⟩ := h.get t args[t] (by simp [ht])
    have hl := h.length
    rw [List.getElem?_eq_getElem ht]
    simp only [Option.getD_some]
    rw [Array.getElem?_append, if_pos (by simp; omega)]
    simp only [List.getElem?_toArray, h1, Option.getD_some]
    exact h2
  · rw [List.getElem?_eq_none (by omega)]
    exact .undef _

/-- A FUNCTION -/
theorem fun_sound {f : FuncId} {hint : Hint} (hσ : SimAll P σ) : SimF P f (funM P σ f hint) := by
  intro N w₀ ρ H w args args' r H' hG h ha hl
  unfold funM at hl
  cases hf : P.funcs[f]? with
  | none => rw [hf] at hl; exact (fail_ne hl).elim
  | some fn =>
    rw [hf] at hl
    simp only at hl
    cases hb : fn.body with
    | none => rw [hb] at hl; exact (fail_ne hl).elim
    | some c =>
      rw [hb] at hl
      simp only at hl
      cases hle : Nat.ble args.length fn.ntmps with
      | false => rw [hle] at hl; simp only [cond_false] at hl; exact (fail_ne hl).elim
      | true =>
        rw [hle] at hl
        simp only [cond_true] at hl
        have hlen : args.length ≤ fn.ntmps := Nat.le_of_ble_eq_true hle
        have hal := ha.length
        obtain ⟨o, H1, h1, h2⟩ := bnd_inv hl
        refine calls_of_wp hf hb ?_
        have he : EnvRel fn.ntmps ρ (envOf args) { tmps := args'.toArray ++ Array.replicate (fn.ntmps - args'.toArray.size) undef, defers := [] } :=
          ⟨by simp; omega, fun t => envOf_rel ha _ t⟩
        have fin : ∀ (vs : List V) (ρ' : Ren) (w' : World) (a' : Act), Rel N w₀ ρ' H1 w' → Ext ρ H w ρ' H1 w' → a'.defers = [] → Slots (resSlots fn.results.toList) vs ρ' a' →
            (resM P (expand (resSlots fn.results.toList) vs) fn.results.toList fun l => ret (outV l)) H1 = some (r, H') →
            a'.defers = [] ∧ ∃ v, (results fn a'.tmps).run P w' = .ok v w' ∧ ∃ r', Ending.returned v = .returned r' ∧ Goes N w₀ ρ H w r H' r' w' := by
          intro vs ρ' w' a' q1 q2 q3 q4 q5
          obtain ⟨l, l', g1, g2, g3⟩ := resM_run (P := P) q1 (slots_expand (n := a'.tmps.size) rfl q4).slot fn.results.toList _ r H' q5
          simp only [ret] at g2; cases g2
          refine ⟨q3, _, ?_, _, rfl, ρ', outV_rel g1, q1, q2⟩
          have hm := array_mapM_run (P := P) (oneRes a'.tmps) fn.results l' w' g3
          have heq : results fn a'.tmps = (do
            let vs ← fn.results.mapM (oneRes a'.tmps)
            pure (if h : vs.size = 1 then vs[0] else .tuple vs)) := by
            unfold results
            congr 1
          rw [heq]
          simp only [Sem.run_bind, hm, Result.andThen_ok, Sem.run_pure]
        refine den_sound hσ hG (resSlots fn.results.toList) c hint [] (resSlots fn.results.toList) ρ H w (envOf args) _ o H1 _ h he h1 fun ρ' w' a' ex q1 q2 q3 q4 q5 => ?_
        cases o with
        | nxt vs => obtain ⟨rfl, hs⟩ := q5; exact fin vs ρ' w' a' q1 q2 q4 hs h2
        | ret vs => obtain ⟨rfl, hs⟩ := q5; exact fin vs ρ' w' a' q1 q2 q4 hs h2
        | brk id vs => simp only [finM] at h2; exact (fail_ne h2).elim

/-! ### tables of known functions -/

def ofTbl : List (Nat × (List V → M V)) → Calls'
  | [] => fun _ _ => fail
  | (g, F) :: rest => fun f => bif Nat.beq f g then F else ofTbl rest f

/-- F is known to be what function f does -/
def Known (P : Program) (f : Nat) (F : List V → M V) : Prop := plainF P f = true ∧ SimF P f F

theorem simAll_nil : SimAll P (ofTbl []) := fun f args H r H' h => by simp [ofTbl, fail] at h
theorem simAll_cons {g : Nat} {F : List V → M V} {l : List (Nat × (List V → M V))} (h : Known P g F) (hl : SimAll P (ofTbl l)) : SimAll P (ofTbl ((g, F) :: l)) := by
  intro f args H r H' hr
  simp only [ofTbl] at hr ⊢
  cases hb : Nat.beq f g with
  | true =>
    have := Nat.eq_of_beq_eq_true hb; subst this
    simp only [cond_true]; exact h
  | false =>
    rw [hb] at hr
    simp only [cond_false] at hr ⊢
    exact hl f args H r H' hr

/-- a function that is as its text says -/
theorem known_of {f : Nat} {hint : Hint} {G : List V → M V} (hp : plainF P f = true) (hσ : SimAll P σ) (h : ∀ args H r H', G args H = some (r, H') → funM P σ f hint args H = some (r, H')) : Known P f G :=
  ⟨hp, fun N w₀ ρ H w args args' r H' hG hR ha hl => fun_sound hσ N w₀ ρ H w args args' r H' hG hR ha (h args H r H' hl)⟩

end Go.AM
