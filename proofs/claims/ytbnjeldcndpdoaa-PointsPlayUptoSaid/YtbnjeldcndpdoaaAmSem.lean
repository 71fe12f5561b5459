import Derived.Test.YtbnjeldcndpdoaaAmCore
set_option linter.all false
/- How abstract values and heaps stand to the model's: blocks are renamed, slices may have more room. -/
namespace Go.AM
open Go.RowKit (Below)

/-- The place of an abstract block: the real block, where in it the block begins, how many cells the real block has. -/
structure Loc where
  blk : Nat
  off : Nat
  size : Nat

abbrev Ren := Nat → Option Loc

/-- handles of types: a number for what stands in an interface -/
def tokV (n : Nat) : V := .iface (n / 1099511627776) (.agg #[.pointer (some ⟨n / 1048576 % 1048576, n % 1048576, none⟩)])

inductive VRel (ρ : Ren) : V → V → Prop where
  | undef (v : V) : VRel ρ (.tuple #[]) v
  | skip : VRel ρ (.chan none) (.tuple #[])
  | tok (n : Nat) : VRel ρ (.chan (some n)) (tokV n)
  | bool (b : Bool) : VRel ρ (.bool b) (.bool b)
  | int (k : IntKind) (n : Int) : VRel ρ (.int k n) (.int k n)
  | float (k : FloatKind) (n : Nat) : VRel ρ (.float k n) (.float k n)
  | complex (k : FloatKind) (a b : Nat) : VRel ρ (.complex k a b) (.complex k a b)
  | string (s : ByteArray) : VRel ρ (.string s) (.string s)
  | pnil : VRel ρ (.pointer none) (.pointer none)
  | ptr (b o : Nat) (L : Loc) (h : ρ b = some L) : VRel ρ (.pointer (some ⟨b, o, none⟩)) (.pointer (some ⟨L.blk, L.off + o, none⟩))
  | snil : VRel ρ (.slice none 0 0) (.slice none 0 0)
  | slc (b o u len cap : Nat) (L : Loc) (co ccap : Nat) (ca : Addr) (h : ρ b = some L) (ho : co = L.off + o ∨ cap = 0) (hl : len ≤ cap) (hc : cap ≤ ccap) (hs : u = 0 ∨ co + ccap * u ≤ L.size) (hca : ca = ⟨L.blk, co, none⟩ ∨ ccap = 0) (hmx : u = 0 ∨ ccap ≤ 9223372036854775807) :
      VRel ρ (.slice (some ⟨b, o, some u⟩) len cap) (.slice (some ca) len ccap)
  | mnil : VRel ρ (.map none) (.map none)
  | map (b : Nat) (L : Loc) (h : ρ b = some L) : VRel ρ (.map (some b)) (.map (some L.blk))
  | nilFunc : VRel ρ .nilFunc .nilFunc
  | nilIface : VRel ρ .nilIface .nilIface
  | func (fn : Fn) (x y x' y' : Array V) (hx : x.size = x'.size) (hy : y.size = y'.size) (h : ∀ i (h : i < x.size) (h' : i < x'.size), VRel ρ x[i] x'[i])
      (g : ∀ i (h : i < y.size) (h' : i < y'.size), VRel ρ y[i] y'[i]) : VRel ρ (.func fn x y) (.func fn x' y')
  | iface (t : TypeId) (v v' : V) (h : VRel ρ v v') : VRel ρ (.iface t v) (.iface t v')
  | agg (x x' : Array V) (hx : x.size = x'.size) (h : ∀ i (h : i < x.size) (h' : i < x'.size), VRel ρ x[i] x'[i]) : VRel ρ (.agg x) (.agg x')
  | tuple (x x' : Array V) (hx : x.size = x'.size) (h : ∀ i (h : i < x.size) (h' : i < x'.size), VRel ρ x[i] x'[i]) : VRel ρ (.tuple x) (.tuple x')

/-- lists, part by part -/
inductive LRel (ρ : Ren) : List V → List V → Prop where
  | nil : LRel ρ [] []
  | cons {x y : V} {xs ys : List V} : VRel ρ x y → LRel ρ xs ys → LRel ρ (x :: xs) (y :: ys)

def Ren.le (ρ ρ' : Ren) : Prop := ∀ b L, ρ b = some L → ρ' b = some L
theorem Ren.le.refl (ρ : Ren) : ρ.le ρ := fun _ _ h => h
theorem Ren.le.trans {a b c : Ren} (h : a.le b) (g : b.le c) : a.le c := fun x L e => g x L (h x L e)

theorem VRel.mono {ρ ρ' : Ren} (hle : ρ.le ρ') {v v' : V} (h : VRel ρ v v') : VRel ρ' v v' := by
  induction h with
  | undef v => exact .undef v
  | skip => exact .skip
  | tok n => exact .tok n
  | bool b => exact .bool b
  | int k n => exact .int k n
  | float k n => exact .float k n
  | complex k a b => exact .complex k a b
  | string s => exact .string s
  | pnil => exact .pnil
  | ptr b o L h => exact .ptr b o L (hle _ _ h)
  | snil => exact .snil
  | slc b o u len cap L co ccap ca h ho hl hc hs hca hmx => exact .slc b o u len cap L co ccap ca (hle _ _ h) ho hl hc hs hca hmx
  | mnil => exact .mnil
  | map b L h => exact .map b L (hle _ _ h)
  | nilFunc => exact .nilFunc
  | nilIface => exact .nilIface
  | func fn x y x' y' hx hy _ _ ih ig => exact .func fn x y x' y' hx hy ih ig
  | iface t v v' _ ih => exact .iface t v v' ih
  | agg x x' hx _ ih => exact .agg x x' hx ih
  | tuple x x' hx _ ih => exact .tuple x x' hx ih

theorem LRel.mono {ρ ρ' : Ren} (hle : ρ.le ρ') {l l' : List V} (h : LRel ρ l l') : LRel ρ' l l' := by
  induction h with
  | nil => exact .nil
  | cons h _ ih => exact .cons (h.mono hle) ih

theorem LRel.length {ρ : Ren} {l l' : List V} (h : LRel ρ l l') : l.length = l'.length := by
  induction h with
  | nil => rfl
  | cons _ _ ih => simp [ih]

theorem LRel.get {ρ : Ren} {l l' : List V} (h : LRel ρ l l') : ∀ (i : Nat) (v : V), l[i]? = some v → ∃ v', l'[i]? = some v' ∧ VRel ρ v v' := by
  induction h with
  | nil => intro i v h; simp at h
  | cons h _ ih =>
    intro i v hi
    cases i with
    | zero => simp at hi; subst hi; exact ⟨_, rfl, h⟩
    | succ i => exact ih i v (by simpa using hi)

theorem LRel.of_get {ρ : Ren} : ∀ {l l' : List V}, l.length = l'.length → (∀ i (h : i < l.length) (h' : i < l'.length), VRel ρ l[i] l'[i]) → LRel ρ l l'
  | [], [], _, _ => .nil
  | [], _ :: _, h, _ => by simp at h
  | _ :: _, [], h, _ => by simp at h
  | x :: xs, y :: ys, h, g => .cons (g 0 (by simp) (by simp)) (LRel.of_get (by simpa using h) fun i h h' => g (i + 1) (by simpa using h) (by simpa using h'))

theorem LRel.getElem {ρ : Ren} {l l' : List V} (h : LRel ρ l l') (i : Nat) (hi : i < l.length) (hi' : i < l'.length) : VRel ρ l[i] l'[i] := by
  obtain ⟨v', h1, h2⟩ := h.get i l[i] (by simp [hi])
  have : l'[i] = v' := by simpa [hi'] using h1
  rw [this]; exact h2

theorem LRel.append {ρ : Ren} {a a' b b' : List V} (h : LRel ρ a a') (g : LRel ρ b b') : LRel ρ (a ++ b) (a' ++ b') := by
  induction h with
  | nil => exact g
  | cons h _ ih => exact .cons h ih

theorem LRel.take {ρ : Ren} {l l' : List V} (h : LRel ρ l l') : ∀ n, LRel ρ (l.take n) (l'.take n) := by
  induction h with
  | nil => intro n; simp; exact .nil
  | cons h _ ih => intro n; cases n with
    | zero => simp; exact .nil
    | succ n => simp; exact .cons h (ih n)

theorem LRel.drop {ρ : Ren} {l l' : List V} (h : LRel ρ l l') : ∀ n, LRel ρ (l.drop n) (l'.drop n) := by
  induction h with
  | nil => intro n; simp; exact .nil
  | cons h g ih => intro n; cases n with
    | zero => simp; exact .cons h g
    | succ n => simp; exact ih n

theorem LRel.set {ρ : Ren} {l l' : List V} (h : LRel ρ l l') {v v' : V} (hv : VRel ρ v v') : ∀ n, LRel ρ (l.set n v) (l'.set n v') := by
  induction h with
  | nil => intro n; simp; exact .nil
  | cons h g ih => intro n; cases n with
    | zero => simp; exact .cons hv g
    | succ n => simp; exact .cons h (ih n)

theorem VRel.agg' {ρ : Ren} {x x' : Array V} (h : LRel ρ x.toList x'.toList) : VRel ρ (.agg x) (.agg x') :=
  .agg x x' (by simpa using h.length) fun i hi hi' => by have := h.getElem i (by simpa using hi) (by simpa using hi'); simpa using this
theorem VRel.tuple' {ρ : Ren} {x x' : Array V} (h : LRel ρ x.toList x'.toList) : VRel ρ (.tuple x) (.tuple x') :=
  .tuple x x' (by simpa using h.length) fun i hi hi' => by have := h.getElem i (by simpa using hi) (by simpa using hi'); simpa using this
theorem arel {ρ : Ren} {x x' : Array V} (hx : x.size = x'.size) (h : ∀ i (h : i < x.size) (h' : i < x'.size), VRel ρ x[i] x'[i]) : LRel ρ x.toList x'.toList :=
  .of_get (by simpa using hx) fun i hi hi' => by simpa using h i (by simpa using hi) (by simpa using hi')

/-- A value of one cell on the abstract side is one on the real side, of the same kind. -/
theorem VRel.isOne {ρ : Ren} {v v' : V} (h : VRel ρ v v') (h1 : v.isOne = true) : v'.isOne = true := by
  cases h <;> simp_all [Value.isOne]

theorem cells_one {v : V} (h : v.isOne = true) : v.cells = #[v] := by
  cases v <;> simp_all [Value.isOne, Value.cells]

/-- What a value lays into cells. -/
theorem VRel.cells {ρ : Ren} {v v' : V} (h : VRel ρ v v') (h1 : v.cells.toList.all Value.isOne = true) : LRel ρ v.cells.toList v'.cells.toList := by
  cases h <;> first
    | (simp [Value.cells, Value.isOne] at h1; done)
    | (simp only [Value.cells]; exact .cons (by constructor <;> assumption) .nil)
    | (simp only [Value.cells]; exact arel (by assumption) (by assumption))

/-- the stamps of a map's entries: each above those ahead of it, all below the clock -/
def Born (E : Array MapEntry) (clk : Nat) : Prop := E.toList.Pairwise (fun a b => a.born < b.born) ∧ ∀ e ∈ E.toList, e.born < clk
theorem born_nil (c : Nat) : Born #[] c := ⟨.nil, fun e he => by simp at he⟩

/-- Of a block: what stands in the real one. -/
def BRel (N : Nat) (ρ : Ren) (w : World) (L : Loc) : Blk → Prop
  | .cells rw cs => ∃ C e f, w.heap[L.blk]? = some (.cells C e f) ∧ C.size = L.size ∧
      ((rw = true → N ≤ L.blk ∧ ∀ i, i < C.size → ¬ (f.1 ≤ i ∧ i < f.2)) ∧ (rw = false → L.off + cs.length = C.size)) ∧ L.off + cs.length ≤ C.size ∧ LRel ρ cs ((C.toList.drop L.off).take cs.length)
  | .map rw es => L.off = 0 ∧ ∃ E clk, w.heap[L.blk]? = some (.map E clk) ∧ (rw = true → N ≤ L.blk ∧ Born E clk) ∧ LRel ρ (es.map (·.1)) (E.toList.map (·.key)) ∧ LRel ρ (es.map (·.2)) (E.toList.map (·.val))
  | .siter s pos => L.off = 0 ∧ N ≤ L.blk ∧ w.heap[L.blk]? = some (.stringIter s pos)

/-- The abstract heap H is what the real world w holds, by the renaming ρ. Below N the world is as w₀ was. -/
structure Rel (N : Nat) (w₀ : World) (ρ : Ren) (H : Heap) (w : World) : Prop where
  below : Below N w₀ w
  big : N ≤ w.heap.size
  dom : ∀ b, H.next ≤ b → ρ b = none
  base : ∀ b, b < N → ∃ s, ρ b = some ⟨b, 0, s⟩
  blk : ∀ b x, H.get b = some x → ∃ L, ρ b = some L ∧ BRel N ρ w L x
  inj : ∀ b b' x x' L L', H.get b = some x → H.get b' = some x' → b ≠ b' → ρ b = some L → ρ b' = some L' → L.blk ≠ L'.blk

/-- Between two worlds: what lies outside the blocks that the abstract heap has is as it was. -/
def Apart (ρ : Ren) (H : Heap) (w w' : World) : Prop :=
  w.heap.size ≤ w'.heap.size ∧ ∀ c, c < w.heap.size → (∀ b x L, H.get b = some x → ρ b = some L → L.blk ≠ c) → w'.heap[c]? = w.heap[c]?

theorem BRel.mono {N : Nat} {ρ ρ' : Ren} (hle : ρ.le ρ') {w w' : World} {L : Loc} {x : Blk} (hw : w'.heap[L.blk]? = w.heap[L.blk]?) (h : BRel N ρ w L x) : BRel N ρ' w' L x := by
  cases x with
  | cells rw cs =>
    obtain ⟨C, e, f, h1, h2, h4, h5, h6⟩ := h
    exact ⟨C, e, f, hw.trans h1, h2, h4, h5, h6.mono hle⟩
  | map rw es =>
    obtain ⟨h0, E, clk, h1, h2, h3, h4⟩ := h
    exact ⟨h0, E, clk, hw.trans h1, h2, h3.mono hle, h4.mono hle⟩
  | siter s pos =>
    obtain ⟨h0, h1, h2⟩ := h
    exact ⟨h0, h1, hw.trans h2⟩

theorem Heap.get_lt {H : Heap} {b : Nat} {x : Blk} (h : H.get b = some x) : b < H.next := by
  rcases Nat.lt_or_ge b H.next with hl | hl
  · exact hl
  · rw [Heap.get_big hl] at h; cases h

theorem Heap.get_push (H : Heap) (x : Option Blk) (b : Nat) : (H.push x).get b = if b = H.next then x else H.get b := BT.get_put x b H.ok

theorem Heap.next_push (H : Heap) (x : Option Blk) : (H.push x).next = H.next + 1 := rfl
theorem Heap.next_set (H : Heap) (b : Nat) (x : Option Blk) : (H.set b x).next = H.next := rfl

theorem Heap.get_set (H : Heap) (b : Nat) (x : Option Blk) (c : Nat) (hb : b < H.next) : (H.set b x).get c = if c = b then x else H.get c := by
  show (H.tree.set b x).get c = _
  rw [BT.get_set b x c H.ok]
  by_cases h : c = b
  · rw [if_pos h, if_pos ⟨h, hb⟩]
  · rw [if_neg h, if_neg (fun q => h q.1)]; rfl

def Ren.add (ρ : Ren) (b : Nat) (L : Loc) : Ren := fun c => if c = b then some L else ρ c

theorem Ren.le_add {ρ : Ren} {b : Nat} (L : Loc) (h : ρ b = none) : ρ.le (ρ.add b L) := by
  intro c K hc
  unfold Ren.add
  split
  · rename_i e; rw [e, h] at hc; cases hc
  · exact hc

section
variable {N : Nat} {w₀ : World} {ρ : Ren} {H : Heap} {w : World}

theorem Rel.lt (h : Rel N w₀ ρ H w) {b : Nat} {x : Blk} {L : Loc} (hb : H.get b = some x) (hL : ρ b = some L) : L.blk < w.heap.size := by
  obtain ⟨K, hK, hr⟩ := h.blk b x hb
  rw [hL] at hK; cases hK
  have key : ∀ o, w.heap[L.blk]? = some o → L.blk < w.heap.size := fun o ho => by
    rcases Nat.lt_or_ge L.blk w.heap.size with hl | hl
    · exact hl
    · simp [Array.getElem?_eq_none hl] at ho
  cases x with
  | cells rw cs => obtain ⟨C, e, f, h1, _⟩ := hr; exact key _ h1
  | map rw es => obtain ⟨_, E, clk, h1, _⟩ := hr; exact key _ h1
  | siter s pos => exact key _ hr.2.2

/-- A new block. -/
theorem Rel.alloc (h : Rel N w₀ ρ H w) (x : Blk) (o : Obj) (L : Loc) (hL : L.blk = w.heap.size)
    (hx : BRel N (ρ.add H.next L) { w with heap := w.heap.push o } L x) : Rel N w₀ (ρ.add H.next L) (H.push (some x)) { w with heap := w.heap.push o } := by
  have hno : ρ H.next = none := h.dom _ (Nat.le_refl _)
  have hle := Ren.le_add L hno
  have hold : ∀ k, k < w.heap.size → ({ w with heap := w.heap.push o } : World).heap[k]? = w.heap[k]? := fun k hk => by
    show (w.heap.push o)[k]? = _
    rw [Array.getElem?_push, if_neg (by omega)]
  refine ⟨?_, ?_, ?_, fun b hb => by obtain ⟨s, hs⟩ := h.base b hb; exact ⟨s, hle _ _ hs⟩, ?_, ?_⟩
  · exact h.below.trans ⟨rfl, rfl, rfl, by simp, fun k hk => hold k (Nat.lt_of_lt_of_le hk h.big)⟩
  · have := h.big; simp; omega
  · intro b hb
    rw [Heap.next_push] at hb
    unfold Ren.add
    rw [if_neg (by omega)]
    exact h.dom b (by omega)
  · intro b y hy
    rw [Heap.get_push] at hy
    split at hy
    · rename_i e
      cases hy; subst e
      exact ⟨L, by simp [Ren.add], hx⟩
    · rename_i e
      obtain ⟨K, hK, hr⟩ := h.blk b y hy
      exact ⟨K, hle _ _ hK, hr.mono hle (hold _ (h.lt hy hK))⟩
  · intro b b' y y' K K' hy hy' hne hK hK'
    rw [Heap.get_push] at hy hy'
    unfold Ren.add at hK hK'
    by_cases e : b = H.next
    · have e' : b' ≠ H.next := fun q => hne (e.trans q.symm)
      rw [if_pos e] at hy hK; rw [if_neg e'] at hy' hK'
      cases hK
      have := h.lt hy' hK'
      omega
    · by_cases e' : b' = H.next
      · rw [if_neg e] at hy hK; rw [if_pos e'] at hy' hK'
        cases hK'
        have := h.lt hy hK
        omega
      · rw [if_neg e] at hy hK; rw [if_neg e'] at hy' hK'
        exact h.inj b b' y y' K K' hy hy' hne hK hK'

/-- A block of the call's own turns: the abstract block b and the real one. -/
theorem Rel.put (h : Rel N w₀ ρ H w) {b : Nat} {x y : Blk} {L : Loc} (hb : H.get b = some x) (hL : ρ b = some L) (hN : N ≤ L.blk) (w' : World)
    (hos : w'.os = w.os) (htape : w'.tape = w.tape) (hout : w'.output = w.output) (hsz : w'.heap.size = w.heap.size)
    (hold : ∀ k, k ≠ L.blk → w'.heap[k]? = w.heap[k]?) (hy : BRel N ρ w' L y) : Rel N w₀ ρ (H.set b (some y)) w' := by
  have hlt := Heap.get_lt hb
  refine ⟨?_, ?_, ?_, h.base, ?_, ?_⟩
  · exact h.below.trans ⟨hos, htape, hout, by omega, fun k hk => hold k (by omega)⟩
  · rw [hsz]; exact h.big
  · intro c hc; rw [Heap.next_set] at hc; exact h.dom c hc
  · intro c z hz
    rw [Heap.get_set H b _ c hlt] at hz
    split at hz
    · rename_i e; cases hz; subst e; exact ⟨L, hL, hy⟩
    · rename_i e
      obtain ⟨K, hK, hr⟩ := h.blk c z hz
      exact ⟨K, hK, hr.mono (Ren.le.refl _) (hold _ (h.inj c b z x K L hz hb e hK hL))⟩
  · intro c c' z z' K K' hz hz' hne hK hK'
    rw [Heap.get_set H b _ _ hlt] at hz hz'
    have hz2 : ∃ q, H.get c = some q := by split at hz; · rename_i e; subst e; exact ⟨_, hb⟩
                                           · exact ⟨_, hz⟩
    have hz2' : ∃ q, H.get c' = some q := by split at hz'; · rename_i e; subst e; exact ⟨_, hb⟩
                                             · exact ⟨_, hz'⟩
    obtain ⟨q, hq⟩ := hz2; obtain ⟨q', hq'⟩ := hz2'
    exact h.inj c c' q q' K K' hq hq' hne hK hK'

/-- A block is given up. -/
theorem Rel.kill (h : Rel N w₀ ρ H w) {b : Nat} {x : Blk} (hb : H.get b = some x) : Rel N w₀ ρ (H.set b none) w := by
  have hlt := Heap.get_lt hb
  refine ⟨h.below, h.big, fun c hc => h.dom c (by rwa [Heap.next_set] at hc), h.base, fun c z hz => ?_, fun c c' z z' K K' hz hz' hne hK hK' => ?_⟩
  · rw [Heap.get_set H b _ c hlt] at hz
    split at hz
    · cases hz
    · exact h.blk c z hz
  · rw [Heap.get_set H b _ _ hlt] at hz hz'
    split at hz
    · cases hz
    · split at hz'
      · cases hz'
      · exact h.inj c c' z z' K K' hz hz' hne hK hK'

/-- A draw turns nothing. -/
theorem Rel.drew (h : Rel N w₀ ρ H w) (n : Nat) : Rel N w₀ ρ H { w with drawn := n } :=
  ⟨⟨h.below.os, h.below.tape, h.below.output, h.below.size, h.below.block⟩, h.big, h.dom, h.base, fun b x hb => by obtain ⟨L, hL, hr⟩ := h.blk b x hb; exact ⟨L, hL, hr.mono (Ren.le.refl _) rfl⟩, h.inj⟩

theorem Apart.refl (ρ : Ren) (H : Heap) (w : World) : Apart ρ H w w := ⟨Nat.le_refl _, fun _ _ _ => rfl⟩

end
end Go.AM

/- What code computes on the abstract machine. -/
namespace Go.AM

/-! ### operations -/

inductive TK where
  | one
  | agg (n : Nat)

def tk (P : Program) (t : TypeId) : Option TK :=
  match P.underlying t, P.info? t with
  | some (.struct _), some i => some (.agg i.size)
  | some (.array _ _), some i => some (.agg i.size)
  | some _, some i => if i.size = 1 then some .one else none
  | _, _ => none

def zeroV (P : Program) (t : TypeId) : Option V := match P.info? t with | some i => i.zero | none => none
def sizeT (P : Program) (t : TypeId) : Option Nat := match P.info? t with | some i => some i.size | none => none
def bytesT (P : Program) (t : TypeId) : Option Nat := match P.info? t with | some i => some i.bytes | none => none

/-- fields' places, elements' places -/
def placesAll (P : Program) : List Field → Option (List (Nat × Nat))
  | [] => some []
  | f :: fs => match sizeT P f.type, placesAll P fs with
    | some n, some l => some ((f.offset, n) :: l)
    | _, _ => none

def partsF (pl : List (Nat × Nat)) (ρ : Operand → V) : List (Nat × Operand) → Option (List (Nat × Nat × V))
  | [] => some []
  | (i, x) :: rest => match pl[i]?, partsF pl ρ rest with
    | some p, some l => some ((p.1, p.2, ρ x) :: l)
    | _, _ => none

def placesE (size : Nat) (ρ : Operand → V) : List (Nat × Operand) → List (Nat × Nat × V)
  | [] => []
  | (i, x) :: rest => (i * size, size, ρ x) :: placesE size ρ rest

/-- may two values of a type be compared at once, part by part? -/
def fkT (P : Program) (t : TypeId) : Option FK := match P.underlying t with
  | some .bool => some .b
  | some (.int _) => some .i
  | some .string => some .s
  | _ => none
def flatFs (P : Program) : Nat → List Field → Option (List FK)
  | _, [] => some []
  | n, f :: fs => match fkT P f.type, flatFs P (n + 1) fs with
    | some k, some ks => if (f.name != "_" && f.offset == n) = true then some (k :: ks) else none
    | _, _ => none
def flatS (P : Program) (t : TypeId) : Option (List FK) := match P.underlying t with
  | some (.struct fs) => if (!P.stoodInHeld t && !P.eqGuardType P.depth t) = true then flatFs P 0 fs.toList else none
  | _ => none
def keyT (P : Program) (t : TypeId) : Option KK := match fkT P t with
  | some k => some (.one k)
  | none => match flatS P t with | some ks => some (.agg ks) | none => none

def nkT (P : Program) (t : TypeId) : Option NK := match P.underlying t with
  | some (.pointer _) => some .p
  | some (.slice _) => some .s
  | some (.map _ _) => some .m
  | some (.func _ _ _) => some .f
  | some (.interface _) => some .i
  | _ => none

def isConstNil (nk : NK) : Operand → Bool
  | .const v => match isNil nk v with | some true => true | _ => false
  | _ => false

def eqM (P : Program) (neg : Bool) (t : TypeId) (x y : Operand) (ρ : Operand → V) : Option V :=
  match P.underlying t with
  | some .bool => notIf neg (eqK .b (ρ x) (ρ y))
  | some (.int _) => bin (if neg then .neq else .eql) (ρ x) (ρ y)
  | some .string => bin (if neg then .neq else .eql) (ρ x) (ρ y)
  | some (.struct _) => match flatS P t with | some ks => notIf neg (eqAgg ks (ρ x) (ρ y)) | none => none
  | _ => match nkT P t with
    | some nk => if isConstNil nk y then notIf neg (isNil nk (ρ x)) else if isConstNil nk x then notIf neg (isNil nk (ρ y)) else none
    | none => none

def optO (ρ : Operand → V) : Option Operand → Option V
  | none => none
  | some x => some (ρ x)

def pureB (P : Program) (ρ : Operand → V) (b : Builtin) (args : List Operand) (ts : List TypeId) : Option V :=
  match b, args, ts with
  | .len, [x], [t] => match P.underlying t with
    | some .string => match ρ x with | .string s => some (i64 s.size) | _ => none
    | some (.slice _) => match ρ x with | .slice _ n _ => some (i64 n) | _ => none
    | some (.array n _) => some (i64 n)
    | _ => none
  | .cap, [x], [t] => match P.underlying t with
    | some (.slice _) => capV (ρ x)
    | _ => none
  | .min, [x, y], _ => minV (ρ x) (ρ y)
  | .max, [x, y], _ => maxV (ρ x) (ρ y)
  | _, _, _ => none

/-- an operation that reads and writes no memory -/
def pureM (P : Program) (ρ : Operand → V) : Op → Option V
  | .move x => some (ρ x)
  | .assign x => some (ρ x)
  | .pick c a b => pickV (ρ c) (ρ a) (ρ b)
  | .build t parts => match P.underlying t, zeroV P t with
    | some (.struct fs), some z => match placesAll P fs.toList with
      | some pl => match partsF pl ρ parts.toList with
        | some l => build z.cells.toList l
        | none => none
      | none => none
    | some (.array _ e), some z => match sizeT P e with
      | some n => build z.cells.toList (placesE n ρ parts.toList)
      | none => none
    | _, _ => none
  | .nilCheck x => nilck (ρ x)
  | .binOp .eql t x y _ => eqM P false t x y ρ
  | .binOp .neq t x y _ => eqM P true t x y ρ
  | .binOp op _ x y _ => bin op (ρ x) (ρ y)
  | .unOp op _ x => un op (ρ x)
  | .convert src dst x => match P.underlying src, P.underlying dst with
    | some (.int _), some (.int k) => cvi k (ρ x)
    | some .string, some .string => match ρ x with | .string s => some (.string s) | _ => none
    | _, _ => none
  | .makeInterface t x => match P.underlying t with
    | some (.interface _) => none
    | some _ => some (.iface t (ρ x))
    | none => none
  | .makeFunc fn first captured => some (.func fn (first.map ρ) (captured.map ρ))
  | .slice t x lo hi none => match P.underlying t with
    | some .string => subS (ρ x) (optO ρ lo) (optO ρ hi)
    | some (.slice e) => match sizeT P e with | some n => subV n (ρ x) (optO ρ lo) (optO ρ hi) | none => none
    | some (.array k e) => match sizeT P e with | some n => subA k n (ρ x) (optO ρ lo) (optO ρ hi) | none => none
    | _ => none
  | .fieldAddr s x f => match P.underlying s with
    | some (.struct fs) => match fs[f]? with
      | some fd => match sizeT P fd.type with | some (_ + 1) => faddr fd.offset (ρ x) | _ => none
      | none => none
    | _ => none
  | .field t x f => match P.underlying t with
    | some (.struct fs) => match fs[f]? with
      | some fd => match tk P fd.type with | some .one => fld1 fd.offset (ρ x) | some (.agg n) => fldn fd.offset n (ρ x) | none => none
      | none => none
    | _ => none
  | .indexAddr t x i => match P.underlying t with
    | some (.slice e) => match sizeT P e with | some n => iaddrS n (ρ x) (ρ i) | none => none
    | some (.array k e) => match sizeT P e with | some n => iaddrA k n (ρ x) (ρ i) | none => none
    | _ => none
  | .index t x i => match P.underlying t with
    | some .string => idxS (ρ x) (ρ i)
    | some (.array k e) => match tk P e with | some .one => idxA1 k (ρ x) (ρ i) | some (.agg n) => idxAn k n (ρ x) (ρ i) | none => none
    | _ => none
  | .extract t i => ext i (ρ t)
  | .call c => match c.callee with
    | .builtin b => pureB P ρ b c.args.toList c.argTypes.toList
    | _ => none
  | _ => none

def readB (P : Program) (ρ : Operand → V) (b : Builtin) (args : List Operand) (ts : List TypeId) : M V :=
  match b, args, ts with
  | .len, [x], [t] => match P.underlying t with
    | some (.map _ _) => lenM (ρ x)
    | _ => fail
  | _, _, _ => fail

/-- an operation that reads memory -/
def readM (P : Program) (ρ : Operand → V) : Op → M V
  | .load t a => match tk P t with | some .one => ld1 (ρ a) | some (.agg n) => ldn n (ρ a) | none => fail
  | .convert src dst x => match P.underlying src, P.underlying dst with
    | some (.slice e), some .string => match P.underlying e with | some (.int .u8) => b2s (ρ x) | _ => fail
    | _, _ => fail
  | .lookup t m k ok => match P.underlying t with
    | some (.map kt et) => match zeroV P et, keyT P kt with | some z, some kk => lookup kk z ok (ρ m) (ρ k) | _, _ => fail
    | _ => fail
  | .call c => match c.callee with
    | .builtin b => readB P ρ b c.args.toList c.argTypes.toList
    | _ => fail
  | _ => fail

def actB (P : Program) (ρ : Operand → V) (b : Builtin) (args : List Operand) (ts : List TypeId) : M V :=
  match b, args, ts with
  | .append, [s, x], [t, u] => match P.underlying t with
    | some (.slice e) => match sizeT P e, bytesT P e, zeroV P e with
      | some n, some by_, some z => if z.cells.size = n ∧ 0 < n ∧ 0 < by_ then
          (match P.underlying u with
          | some (.slice _) => appV n by_ (ρ s) (ρ x)
          | some .string => if n = 1 ∧ by_ = 1 then appS (ρ s) (ρ x) else fail
          | some (.int _) => appZ n by_ z.cells.toList (ρ s) (ρ x)
          | _ => fail) else fail
      | _, _, _ => fail
    | _ => fail
  | .copy, [d, x], [t, _] => match P.underlying t with
    | some (.slice e) => match sizeT P e with | some n => cpy n (ρ d) (ρ x) | none => fail
    | _ => fail
  | .delete, [m, k], [t, _] => match P.underlying t with
    | some (.map kt _) => match keyT P kt with | some kk => mapDel kk (ρ m) (ρ k) | none => fail
    | _ => fail
  | _, _, _ => fail

/-- an operation that makes or writes memory -/
def actM (P : Program) (ρ : Operand → V) : Op → M V
  | .alloc e => match zeroV P e with | some z => newc z.cells.toList | none => fail
  | .box _ x => boxv (ρ x)
  | .buildSlice t len parts => match P.underlying t with
    | some (.slice e) => match sizeT P e, zeroV P e with
      | some n, some z => if len * n ≤ 16777216 ∧ z.cells.size = n ∧ 0 < n then bslc n len (rep len z.cells.toList) (placesE n ρ parts.toList) else fail
      | _, _ => fail
    | _ => fail
  | .store t a x => match tk P t with | some .one => st1 (ρ a) (ρ x) | some (.agg n) => stn n (ρ a) (ρ x) | none => fail
  | .convert src dst x => match P.underlying src, P.underlying dst with
    | some .string, some (.slice e) => match P.underlying e with | some (.int .u8) => s2b (ρ x) | _ => fail
    | _, _ => fail
  | .makeMap _ none => mkmap
  | .makeMap t (some h) => match P.underlying t, ρ h with | some (.map _ _), .int _ _ => mkmap | _, _ => fail
  | .makeSlice t l c => match P.underlying t with
    | some (.slice e) => match sizeT P e, bytesT P e, zeroV P e with
      | some n, some by_, some z => if z.cells.size = n ∧ 0 < n then mkslc n by_ z.cells.toList (ρ l) (ρ c) else fail
      | _, _, _ => fail
    | _ => fail
  | .mapUpdate t m k v => match P.underlying t with
    | some (.map kt _) => match keyT P kt with | some kk => mapSet kk (ρ m) (ρ k) (ρ v) | none => fail
    | _ => fail
  | .insert t m k v => match P.underlying t with
    | some (.map kt _) => match keyT P kt with | some kk => mapSet kk (ρ m) (ρ k) (ρ v) | none => fail
    | _ => fail
  | .call c => match c.callee with
    | .builtin b => actB P ρ b c.args.toList c.argTypes.toList
    | _ => fail
  | _ => fail

/-- the classes of operations -/
inductive Cls where
  | mv | pure | read | act | call
  deriving DecidableEq

def cls (P : Program) : Op → Cls
  | .move _ | .assign _ => .mv
  | .load _ _ | .lookup _ _ _ _ => .read
  | .convert src dst _ => match P.underlying src, P.underlying dst with
    | some (.slice _), some .string => .read
    | some .string, some (.slice _) => .act
    | _, _ => .pure
  | .alloc _ | .box _ _ | .buildSlice _ _ _ | .store _ _ _ | .makeMap _ _ | .makeSlice _ _ _ | .mapUpdate _ _ _ _ | .insert _ _ _ _ => .act
  | .call c => match c.callee with
    | .value _ => .call
    | .builtin .append => .act
    | .builtin .copy => .act
    | .builtin .delete => .act
    | .builtin .len => match c.argTypes.toList with
      | [t] => match P.underlying t with
        | some (.map _ _) => .read
        | _ => .pure
      | _ => .pure
    | _ => .pure
  | _ => .pure

/-! ### slots -/

abbrev Env := Nat → V
/-- a slot (of n) is set -/
def Env.put (n : Nat) (e : Env) (d : Option Nat) (v : V) : Env := match d with
  | none => e
  | some d => bif Nat.blt d n then (fun i => bif Nat.beq i d then v else e i) else e
def evO (P : Program) (e : Env) : Operand → V
  | .tmp t => e t
  | .const v => bif flatV v then v else undef
  | .global g => bif Nat.blt g P.globals.size then ptr g 0 else undef
  | .func f => .func (.func f) #[] #[]

abbrev Calls' := Nat → List V → M V

def callM (σ : Calls') (f : V) (args : List V) : M V := match f with
  | .func (.func g) x y => σ g (x.toList ++ (args ++ y.toList))
  | _ => fail

def argsOf (P : Program) (e : Env) : List Operand → List V
  | [] => []
  | x :: xs => evO P e x :: argsOf P e xs

def operM (P : Program) (σ : Calls') (e : Env) (o : Op) : M V :=
  match cls P o with
  | .mv | .pure => lift (pureM P (evO P e) o)
  | .read => readM P (evO P e) o
  | .act => actM P (evO P e) o
  | .call => match o with
    | .call c => match c.callee with
      | .value f => callM σ (evO P e f) (argsOf P e c.args.toList)
      | _ => fail
    | _ => fail

/-- what has been passed over -/
abbrev skipV : V := .chan none

def gd (g : V) (want : Bool) (m : M V) : M V := match g with
  | .bool b => if b == want then m else ret skipV
  | .tuple vs => if vs.isEmpty then fail else ret skipV
  | _ => ret skipV

/-- the slot of a guard -/
def guardSlot (ops : Array Oper) (o : Oper) : Option (Option (Nat × Bool)) := match o.guard with
  | none => some none
  | some (j, want) => match ops[j]? with
    | some oj => match oj.dst with | some d => some (some (d, want)) | none => none
    | none => none

/-- an operation under its guard -/
def gdM (P : Program) (σ : Calls') (ops : Array Oper) (o : Oper) (e : Env) : M V := match guardSlot ops o with
  | none => fail
  | some none => operM P σ e o.op
  | some (some (d, want)) => gd (e d) want (operM P σ e o.op)

/-- is it a move without a guard? -/
def plainMv (o : Oper) : Option Operand := match o.guard, o.op with
  | none, .move x => some x
  | none, .assign x => some x
  | _, _ => none

def runOps {R : Type} (P : Program) (σ : Calls') (n : Nat) (ops : Array Oper) : List Oper → Env → (Env → M R) → M R
  | [], e, k => k e
  | o :: rest, e, k => match plainMv o with
    | some x => runOps P σ n ops rest (e.put n o.dst (evO P e x)) k
    | none => bnd (gdM P σ ops o e) fun v => runOps P σ n ops rest (e.put n o.dst v) k

/-! ### regions whose order is drawn -/

/-- a value that lies at block 0, at another block -/
def reloc (id : Nat) (v : V) : V := match v with
  | .pointer (some ⟨_, o, s⟩) => .pointer (some ⟨id, o, s⟩)
  | .slice (some ⟨_, o, s⟩) l c => .slice (some ⟨id, o, s⟩) l c
  | .map (some _) => .map (some id)
  | v => v

/-- an operation that makes a block, laid at a number that was kept free -/
def flt (id : Nat) (m : M V) : M V := fun H => match m Heap.none0 with
  | some (v, K) => match K.one? with
    | some x => match H.get id with
      | none => bif Nat.blt id H.next then some (reloc id v, H.set id (some x)) else none
      | some _ => none
    | none => none
  | none => none

/-- operations that make one block and look at none -/
def isMk (P : Program) : Op → Bool
  | .alloc _ | .box _ _ | .buildSlice _ _ _ | .makeSlice _ _ _ | .makeMap _ _ => true
  | .convert src dst x => match cls P (.convert src dst x) with | .act => true | _ => false
  | _ => false

inductive KD where
  | quiet | read | chain
  | float (j : Nat)

def idxOf (l : List Nat) (i : Nat) : Option Nat := match l with
  | [] => none
  | x :: xs => bif Nat.beq x i then some 0 else match idxOf xs i with | some j => some (j + 1) | none => none

def kindD (P : Program) (fl : List Nat) (i : Nat) (o : Oper) : KD := match idxOf fl i with
  | some j => .float j
  | none => match cls P o.op with
    | .mv | .pure => .quiet
    | .read => .read
    | .act | .call => .chain

/-- a step of the run in the order that is taken for all -/
structure Tr where
  i : Nat
  o : Oper
  kd : KD
  env : Env
  H : Heap
  v : V
  H' : Heap

def stepM (P : Program) (σ : Calls') (ops : Array Oper) (base : Nat) (kd : KD) (o : Oper) (e : Env) : M V := match kd with
  | .float j => match o.guard with
    | none => bif isMk P o.op then flt (base + j) (actM P (evO P e) o.op) else fail
    | some _ => fail
  | _ => gdM P σ ops o e

/-- the numbers that are still kept free -/
def kept (fl : List Nat) (base : Nat) : List Nat → List Nat
  | [] => []
  | i :: rest => match idxOf fl i with | some j => (base + j) :: kept fl base rest | none => kept fl base rest
def freeIn (H : Heap) : List Nat → Bool
  | [] => true
  | b :: bs => (match H.get b with | none => Nat.blt b H.next | some _ => false) && freeIn H bs

def chainEnd (kd : KD) (H H' : Heap) (l : List Nat) : Bool := match kd with
  | .chain => freeIn H l && freeIn H' l
  | _ => true

def runD {R : Type} (P : Program) (σ : Calls') (n : Nat) (ops : Array Oper) (fl : List Nat) (base : Nat) : List Nat → Env → List Tr → (Env → List Tr → M R) → M R
  | [], e, tr, k => k e tr
  | i :: rest, e, tr, k => match ops[i]? with
    | none => fail
    | some o => match plainMv o, kindD P fl i o with
      | some x, .quiet => fun H => runD P σ n ops fl base rest (e.put n o.dst (evO P e x)) (tr ++ [⟨i, o, .quiet, e, H, evO P e x, H⟩]) k H
      | _, kd => fun H => match stepM P σ ops base kd o e H with
        | some (v, H') => need (chainEnd kd H H' (kept fl base rest)) (runD P σ n ops fl base rest (e.put n o.dst v) (tr ++ [⟨i, o, kd, e, H, v, H'⟩]) k) H'
        | none => none

def KD.isChain : KD → Bool | .chain => true | _ => false
def KD.isRead : KD → Bool | .read => true | _ => false
def KD.isFloat : KD → Bool | .float _ => true | _ => false

/-- are two values the same? (values of the kinds that are read) -/
def vEq : V → V → Bool
  | .bool a, .bool b => a == b
  | .int k a, .int k' b => decide (k = k') && a == b
  | .string a, .string b => decide (a = b)
  | .pointer a, .pointer b => decide (a = b)
  | .slice a l c, .slice b l' c' => decide (a = b) && l == l' && c == c'
  | .map a, .map b => decide (a = b)
  | .nilIface, .nilIface => true
  | .nilFunc, .nilFunc => true
  | .agg a, .agg b => vEqs a.toList b.toList
  | .tuple a, .tuple b => vEqs a.toList b.toList
  | .chan none, .chan none => true
  | _, _ => false
where
  vEq1 : V → V → Bool
  | .bool a, .bool b => a == b
  | .int k a, .int k' b => decide (k = k') && a == b
  | .string a, .string b => decide (a = b)
  | .pointer a, .pointer b => decide (a = b)
  | .slice a l c, .slice b l' c' => decide (a = b) && l == l' && c == c'
  | .map a, .map b => decide (a = b)
  | .nilIface, .nilIface => true
  | .nilFunc, .nilFunc => true
  | _, _ => false
  vEqs : List V → List V → Bool
  | [], [] => true
  | x :: xs, y :: ys => vEq1 x y && vEqs xs ys
  | _, _ => false

/-- it reads the same in another heap -/
def chk (m : M V) (H : Heap) (v : V) : Bool := match m H with | some (v', _) => vEq v' v | none => false

def ancB (bf : Array Nat) (c i : Nat) : Bool := (bf.getD c 0).testBit i
def chainIs (tr : List Tr) : List Nat := match tr with
  | [] => []
  | s :: rest => bif s.kd.isChain then s.i :: chainIs rest else chainIs rest
def chainHs (tr : List Tr) : List Heap := match tr with
  | [] => []
  | s :: rest => bif s.kd.isChain then s.H' :: chainHs rest else chainHs rest

/-- may operation i be carried out behind just the first k of the chain? -/
def compat (bf : Array Nat) (chain : List Nat) (i k : Nat) : Bool := (chain.take k).all (fun c => !ancB bf c i) && (chain.drop k).all (fun c => !ancB bf i c)

def chkVers {R : Type} (P : Program) (σ : Calls') (ops : Array Oper) (bf : Array Nat) (chain : List Nat) (s : Tr) (own : Nat) : Nat → List Heap → M R → M R
  | _, [], m => m
  | k, H :: Hs, m => bif (!Nat.beq k own && compat bf chain s.i k) then need (chk (gdM P σ ops s.o s.env) H s.v) (chkVers P σ ops bf chain s own (k + 1) Hs m) else chkVers P σ ops bf chain s own (k + 1) Hs m

/-- each reading is the same wherever it may stand -/
def chkAll {R : Type} (P : Program) (σ : Calls') (ops : Array Oper) (bf : Array Nat) (chain : List Nat) (vers : List Heap) : Nat → List Tr → M R → M R
  | _, [], m => m
  | own, s :: rest, m =>
    bif s.kd.isChain then chkAll P σ ops bf chain vers (own + 1) rest m else
    bif s.kd.isRead then chkVers P σ ops bf chain s own 0 vers (chkAll P σ ops bf chain vers own rest m) else chkAll P σ ops bf chain vers own rest m

def opTmps (o : Oper) : List Nat := o.op.operands.toList.filterMap fun | .tmp t => some t | _ => none
def usesD (ops : Array Oper) (o : Oper) : List Nat := match guardSlot ops o with
  | some (some (d, _)) => d :: opTmps o
  | _ => opTmps o

/-- do two operations touch one slot, so that their order matters? -/
def clash (ops : Array Oper) (x y : Oper) : Bool :=
  (match x.dst with | some d => (usesD ops y).contains d || (match y.dst with | some e => Nat.beq d e | none => false) | none => false) ||
  (match y.dst with | some d => (usesD ops x).contains d | none => false)

def okPair (P : Program) (ops : Array Oper) (bf : Array Nat) (fl : List Nat) (i j : Nat) : Bool := match ops[i]?, ops[j]? with
  | some x, some y =>
    (!clash ops x y || ancB bf j i) &&
    (match kindD P fl i x, kindD P fl j y with
     | .chain, .chain => ancB bf j i
     | .float _, .chain => ancB bf j i
     | _, _ => true)
  | _, _ => false

/-- no float between the last of the chain and a reading -/
def okRead (P : Program) (ops : Array Oper) (fl : List Nat) : Bool → List Nat → Bool
  | _, [] => true
  | fresh, i :: rest => match ops[i]? with
    | none => false
    | some o => match kindD P fl i o with
      | .chain => okRead P ops fl true rest
      | .float _ => okRead P ops fl false rest
      | .read => fresh && okRead P ops fl fresh rest
      | .quiet => okRead P ops fl fresh rest

def okOrder (P : Program) (ops : Array Oper) (bf : Array Nat) (fl : List Nat) : List Nat → List Nat → Bool
  | _, [] => true
  | done, j :: rest => match ops[j]? with
    | none => false
    | some o => !done.contains j && o.after.toList.all (fun e => !Region.binds .any e || done.contains e.on) && (match o.op with | .select _ _ => false | _ => true) && done.all (fun i => okPair P ops bf fl i j) && okOrder P ops bf fl (j :: done) rest

def nodupN : List Nat → Bool
  | [] => true
  | x :: xs => !xs.contains x && nodupN xs

/-- what is asked of a region's text -/
def okD (P : Program) (ops : Array Oper) (perm fl : List Nat) : Bool :=
  P.follows .mixedOrders && (List.range ops.size).all (fun i => perm.contains i) && okOrder P ops (Region.before ops) fl [] perm && okRead P ops fl true perm && nodupN fl && fl.all (fun i => perm.contains i)

def resv (H : Heap) : Nat → Heap
  | 0 => H
  | m + 1 => resv (H.push none) m

def regD {R : Type} (P : Program) (σ : Calls') (n : Nat) (ops : Array Oper) (perm fl : List Nat) (e : Env) (k : Env → M R) : M R := fun H =>
  bif okD P ops perm fl then
    runD P σ n ops fl H.next perm e [] (fun e' tr => chkAll P σ ops (Region.before ops) (chainIs tr) (resv H fl.length :: chainHs tr) 0 tr (k e')) (resv H fl.length)
  else none

inductive Out where
  | nxt (vs : List V)
  | brk (id : Nat) (vs : List V)
  | ret (vs : List V)

def gather (l : List Nat) (e : Env) : List V := match l with | [] => [] | x :: xs => e x :: gather xs e
def expandFrom (l : List Nat) (j : Nat) (vs : List V) (i : Nat) : V := match l with
  | [] => undef
  | x :: xs => bif Nat.beq i x then vs.getD j undef else expandFrom xs (j + 1) vs i
def expand (l : List Nat) (vs : List V) : Env := expandFrom l 0 vs

def FUEL : Nat := 1152921504606846976

def loopM : Nat → (List V → M Out) → List V → M Out
  | 0, _, _ => fail
  | n + 1, body, vs => bnd (body vs) fun o => match o with
    | .nxt vs' => loopM n body vs'
    | o => ret o

def nx (o : Out) (k : List V → M Out) : M Out := match o with
  | .nxt vs => k vs
  | o => ret o
def unblk (id : Nat) (o : Out) : Out := match o with
  | .brk id' vs => bif Nat.beq id' id then .nxt vs else .brk id' vs
  | o => o
def condM (c : V) (a b : M Out) : M Out := match c with
  | .bool true => a
  | .bool false => b
  | _ => fail

end Go.AM
