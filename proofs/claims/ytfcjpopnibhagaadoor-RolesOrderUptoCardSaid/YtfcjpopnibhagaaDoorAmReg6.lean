/- Regions whose order is drawn: the theorem. -/
import Derived.Test.YtfcjpopnibhagaaDoorAmReg5
set_option linter.all false
namespace Go.AM
open Go.RowKit (Below)

variable {P : Program} {N : Nat} {w₀ : World} {ρ : Ren} {H : Heap} {w : World} {σ : Calls'} {n : Nat} {ops : Array Oper} {fl : List Nat} {base : Nat}

/-- what is known of the region and of its run -/
structure Stat (P : Program) (σ : Calls') (n : Nat) (ops : Array Oper) (fl : List Nat) (base N : Nat) (perm : List Nat) (e0 : Env) (Hs : Heap) (tr : List Tr) (ef : Env) (Hf : Heap) : Prop where
  hσ : SimAll P σ
  hG : P.globals.size ≤ N
  run : Run P σ n ops fl base perm e0 Hs tr ef Hf
  ord : okOrder P ops (Region.before ops) fl [] perm = true
  all : ∀ i, i < ops.size → i ∈ perm
  rd : okRead P ops fl true perm = true
  chk : ∀ X s Y, tr = X ++ s :: Y → s.kd.isRead = true → ∀ k HH, (Hs :: chainHs tr)[k]? = some HH → k ≠ cnt X → compat (Region.before ops) (chainIs tr) s.i k = true → AM.chk (gdM P σ ops s.o s.env) HH s.v = true
  free : freeIn Hs (kept fl base perm) = true

abbrev mm (L : Array Bool) : Nat → Bool := fun i => L.getD i false

def Down (ops : Array Oper) (M : Nat → Bool) : Prop := ∀ i, M i = true → ∃ o, ops[i]? = some o ∧ ∀ e ∈ o.after.toList, Region.binds .any e = true → M e.on = true

/-- what holds whenever some of the operations have been carried out -/
structure Inv (n : Nat) (ops : Array Oper) (base N : Nat) (w₀ : World) (e0 : Env) (Hs : Heap) (tr : List Tr) (ρS : Ren) (HS : Heap) (wS : World) (aS : Act) (L : Array Bool) (a : Act) (w : World) (ρ : Ren) (k : Nat) : Prop where
  size : L.size = ops.size
  down : Down ops (mm L)
  kle : k ≤ cnt tr
  chain : ∀ X s Y, tr = X ++ s :: Y → s.kd.isChain = true → (mm L s.i = true ↔ cnt X < k)
  rel : Rel N w₀ ρ (setFl (mm L) base (after k tr) (verAt k Hs tr)) w
  env : EnvRel n ρ (curEnv n (mm L) tr e0) a
  ext : Ext ρS HS wS ρ (setFl (mm L) base (after k tr) (verAt k Hs tr)) w
  free : ∀ X s Y j, tr = X ++ s :: Y → s.kd = .float j → mm L s.i = false → ρ (base + j) = none
  defers : a.defers = aS.defers

theorem mm_set (L : Array Bool) (i j : Nat) (hi : i < L.size) : mm (L.setIfInBounds i true) j = (if j = i then true else mm L j) := by
  unfold mm
  rw [Array.getD_eq_getD_getElem?, Array.getElem?_setIfInBounds, Array.getD_eq_getD_getElem?]
  by_cases h : i = j
  · subst h; simp [hi]
  · rw [if_neg h, if_neg (fun e => h e.symm)]

theorem ready_spec {L : Array Bool} {i : Nat} (hsz : L.size = ops.size) (h : i ∈ Region.ready .any ops L) : i < ops.size ∧ mm L i = false ∧ ∃ o, ops[i]? = some o ∧ ∀ e ∈ o.after.toList, Region.binds .any e = true → mm L e.on = true := by
  simp only [Region.ready, List.mem_filter, List.mem_range, Bool.and_eq_true, Bool.not_eq_true'] at h
  obtain ⟨h1, h2, h3⟩ := h
  have hL : i < L.size := by omega
  refine ⟨h1, by simpa [mm, hL] using h2, ops[i], by simp [h1], fun e he hb => ?_⟩
  simp only [Array.getElem?_eq_getElem h1, Option.map_some, Option.getD_some, Array.all_eq_true_iff_forall_mem, Bool.or_eq_true, Bool.not_eq_true'] at h3
  rcases h3 e (by simpa using he) with q | q
  · rw [hb] at q; cases q
  · exact q

theorem ready_of {L : Array Bool} {i : Nat} (hsz : L.size = ops.size) {o : Oper} (ho : ops[i]? = some o) (hu : mm L i = false) (he : ∀ e ∈ o.after.toList, Region.binds .any e = true → mm L e.on = true) : i ∈ Region.ready .any ops L := by
  have h1 : i < ops.size := by
    rcases Nat.lt_or_ge i ops.size with q | q
    · exact q
    · simp [Array.getElem?_eq_none q] at ho
  have hL : i < L.size := by omega
  simp only [Region.ready, List.mem_filter, List.mem_range, Bool.and_eq_true, Bool.not_eq_true']
  refine ⟨h1, by simpa [mm, hL] using hu, ?_⟩
  simp only [ho, Option.map_some, Option.getD_some, Array.all_eq_true_iff_forall_mem, Bool.or_eq_true, Bool.not_eq_true']
  intro e hm
  cases hb : Region.binds .any e with
  | false => exact .inl rfl
  | true => exact .inr (he e (by simpa using hm) hb)

section
variable {perm : List Nat} {e0 : Env} {Hs : Heap} {tr : List Tr} {ef : Env} {Hf : Heap}

theorem Stat.at (S : Stat P σ n ops fl base N perm e0 Hs tr ef Hf) {i : Nat} (hi : i < ops.size) : ∃ X s Y, tr = X ++ s :: Y ∧ s.i = i := by
  have h1 := S.all i hi
  rw [← S.run.map_i] at h1
  obtain ⟨s, hs, rfl⟩ := List.mem_map.1 h1
  obtain ⟨X, Y, h2⟩ := List.append_of_mem hs
  exact ⟨X, s, Y, h2, rfl⟩

theorem Stat.perm_eq (S : Stat P σ n ops fl base N perm e0 Hs tr ef Hf) {X : List Tr} {s : Tr} {Y : List Tr} (he : tr = X ++ s :: Y) : perm = X.map (·.i) ++ s.i :: Y.map (·.i) := by
  rw [← S.run.map_i, he]; simp

theorem Stat.ne (S : Stat P σ n ops fl base N perm e0 Hs tr ef Hf) {X : List Tr} {s : Tr} {Y : List Tr} (he : tr = X ++ s :: Y) : (∀ p ∈ X, p.i ≠ s.i) ∧ ∀ q ∈ Y, q.i ≠ s.i := by
  constructor
  · intro p hp e
    obtain ⟨o, _, _, g, _⟩ := okOrder_spec perm [] S.ord (X.map (·.i)) s.i (Y.map (·.i)) (S.perm_eq he)
    exact g (by rw [← e]; exact List.mem_map.2 ⟨p, hp, rfl⟩)
  · intro q hq e
    obtain ⟨Y1, Y2, rfl⟩ := List.append_of_mem hq
    have he2 : tr = (X ++ s :: Y1) ++ q :: Y2 := by rw [he]; simp
    obtain ⟨o, _, _, g, _⟩ := okOrder_spec perm [] S.ord _ q.i _ (S.perm_eq he2)
    exact g (by rw [e]; simp)

theorem Stat.pair (S : Stat P σ n ops fl base N perm e0 Hs tr ef Hf) {X : List Tr} {s : Tr} {Y : List Tr} (he : tr = X ++ s :: Y) {p : Tr} (hp : p ∈ X) :
    (clash ops p.o s.o = true → ancB (Region.before ops) s.i p.i = true) ∧ (p.kd.isChain = true → s.kd.isChain = true → ancB (Region.before ops) s.i p.i = true) ∧ (p.kd.isFloat = true → s.kd.isChain = true → ancB (Region.before ops) s.i p.i = true) := by
  obtain ⟨o, h1, _, _, _, h2, _⟩ := okOrder_spec perm [] S.ord (X.map (·.i)) s.i (Y.map (·.i)) (S.perm_eq he)
  have hpair := h2 p.i (.inr (List.mem_map.2 ⟨p, hp, rfl⟩))
  obtain ⟨_, _, hso, hsk, _⟩ := S.run.split he
  obtain ⟨X1, X2, rfl⟩ := List.append_of_mem hp
  have he2 : tr = X1 ++ p :: (X2 ++ s :: Y) := by rw [he]; simp
  obtain ⟨_, _, hpo, hpk, _⟩ := S.run.split he2
  simp only [okPair, hso, hpo, Bool.and_eq_true, Bool.or_eq_true, Bool.not_eq_true'] at hpair
  obtain ⟨q1, q2⟩ := hpair
  rw [← hpk, ← hsk] at q2
  refine ⟨fun hc => ?_, fun h3 h4 => ?_, fun h3 h4 => ?_⟩
  · rcases q1 with q1 | q1
    · rw [hc] at q1; cases q1
    · exact q1
  · cases hpk' : p.kd <;> rw [hpk'] at h3 q2 <;> first | (cases h3; done) | skip
    cases hsk' : s.kd <;> rw [hsk'] at h4 q2 <;> first | (cases h4; done) | exact q2
  · cases hpk' : p.kd <;> rw [hpk'] at h3 q2 <;> first | (cases h3; done) | skip
    cases hsk' : s.kd <;> rw [hsk'] at h4 q2 <;> first | (cases h4; done) | exact q2

/-- what is done already, and what can't be, when an operation is carried out -/
theorem Stat.sides (S : Stat P σ n ops fl base N perm e0 Hs tr ef Hf) {L : Array Bool} (hd : Down ops (mm L)) {X : List Tr} {s : Tr} {Y : List Tr} (he : tr = X ++ s :: Y) (hu : mm L s.i = false)
    (hready : ∃ o, ops[s.i]? = some o ∧ ∀ e ∈ o.after.toList, Region.binds .any e = true → mm L e.on = true) :
    (∀ p, p ∈ X → ancB (Region.before ops) s.i p.i = true → mm L p.i = true) ∧ (∀ q, q ∈ Y → ancB (Region.before ops) q.i s.i = true → mm L q.i = false) := by
  constructor
  · intro p hp ha
    have hdown : ∀ j, (mm L j = true ∨ j = s.i) → ∃ o, ops[j]? = some o ∧ ∀ e ∈ o.after.toList, Region.binds .any e = true → (mm L e.on = true ∨ e.on = s.i) := by
      intro j hj
      rcases hj with hj | rfl
      · obtain ⟨o, h1, h2⟩ := hd j hj; exact ⟨o, h1, fun e he hb => .inl (h2 e he hb)⟩
      · obtain ⟨o, h1, h2⟩ := hready; exact ⟨o, h1, fun e he hb => .inl (h2 e he hb)⟩
    rcases before_sound (Mp := fun j => mm L j = true ∨ j = s.i) hdown s.i (.inr rfl) p.i ha with q | q
    · exact q
    · exact absurd q ((S.ne he).1 p hp)
  · intro q hq ha
    cases hm : mm L q.i with
    | false => rfl
    | true =>
      have := before_sound (Mp := fun j => mm L j = true) (fun j hj => hd j hj) q.i hm s.i ha
      rw [hu] at this; cases this

theorem clash_raw {x y : Oper} {t : Nat} (h1 : x.dst = some t) (h2 : t ∈ usesD ops y) : clash ops x y = true := by
  simp [clash, h1, h2]
theorem clash_war {x y : Oper} {t : Nat} (h1 : y.dst = some t) (h2 : t ∈ usesD ops x) : clash ops x y = true := by
  simp [clash, h1, h2]
theorem clash_waw {x y : Oper} {t : Nat} (h1 : x.dst = some t) (h2 : y.dst = some t) : clash ops x y = true := by
  simp [clash, h1, h2]

end
end Go.AM
