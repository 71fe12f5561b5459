import Derived.Test.YtbnjeldcndpdoaaAmCore
set_option linter.all false
/- How abstract values and heaps stand to the model's: blocks are renamed, slices may have more room. -/
namespace Go.AM
open Go.RowKit (Below)

/-- The place of an abstract block: the real block, where in it the block begins, how many cells the real block has. -/
structure Loc where
  blk : Nat
  off : Nat
  size : Nat

abbrev Ren := Nat → Option Loc

/-- handles of types: a number for what stands in an interface -/
def tokV (n : Nat) : V := .iface (n / 1099511627776) (.agg #[.pointer (some ⟨n / 1048576 % 1048576, n % 1048576, none⟩)])

inductive VRel (ρ : Ren) : V → V → Prop where
  | undef (v : V) : VRel ρ (.tuple #[]) v
  | skip : VRel ρ (.chan none) (.tuple #[])
  | tok (n : Nat) : VRel ρ (.chan (some n)) (tokV n)
  | bool (b : Bool) : VRel ρ (.bool b) (.bool b)
  | int (k : IntKind) (n : Int) : VRel ρ (.int k n) (.int k n)
  | float (k : FloatKind) (n : Nat) : VRel ρ (.float k n) (.float k n)
  | complex (k : FloatKind) (a b : Nat) : VRel ρ (.complex k a b) (.complex k a b)
  | string (s : ByteArray) : VRel ρ (.string s) (.string s)
  | pnil : VRel ρ (.pointer none) (.pointer none)
  | ptr (b o : Nat) (L : Loc) (h : ρ b = some L) : VRel ρ (.pointer (some ⟨b, o, none⟩)) (.pointer (some ⟨L.blk, L.off + o, none⟩))
  | snil : VRel ρ (.slice none 0 0) (.slice none 0 0)
  | slc (b o u len cap : Nat) (L : Loc) (co ccap : Nat) (ca : Addr) (h : ρ b = some L) (ho : co = L.off + o ∨ cap = 0) (hl : len ≤ cap) (hc : cap ≤ ccap) (hs : u = 0 ∨ co + ccap * u ≤ L.size) (hca : ca = ⟨L.blk, co, none⟩ ∨ ccap = 0) :
      VRel ρ (.slice (some ⟨b, o, some u⟩) len cap) (.slice (some ca) len ccap)
  | mnil : VRel ρ (.map none) (.map none)
  | map (b : Nat) (L : Loc) (h : ρ b = some L) : VRel ρ (.map (some b)) (.map (some L.blk))
  | nilFunc : VRel ρ .nilFunc .nilFunc
  | nilIface : VRel ρ .nilIface .nilIface
  | func (fn : Fn) (x y x' y' : Array V) (hx : x.size = x'.size) (hy : y.size = y'.size) (h : ∀ i (h : i < x.size) (h' : i < x'.size), VRel ρ x[i] x'[i])
      (g : ∀ i (h : i < y.size) (h' : i < y'.size), VRel ρ y[i] y'[i]) : VRel ρ (.func fn x y) (.func fn x' y')
  | iface (t : TypeId) (v v' : V) (h : VRel ρ v v') : VRel ρ (.iface t v) (.iface t v')
  | agg (x x' : Array V) (hx : x.size = x'.size) (h : ∀ i (h : i < x.size) (h' : i < x'.size), VRel ρ x[i] x'[i]) : VRel ρ (.agg x) (.agg x')
  | tuple (x x' : Array V) (hx : x.size = x'.size) (h : ∀ i (h : i < x.size) (h' : i < x'.size), VRel ρ x[i] x'[i]) : VRel ρ (.tuple x) (.tuple x')

/-- lists, part by part -/
inductive LRel (ρ : Ren) : List V → List V → Prop where
  | nil : LRel ρ [] []
  | cons {x y : V} {xs ys : List V} : VRel ρ x y → LRel ρ xs ys → LRel ρ (x :: xs) (y :: ys)

def Ren.le (ρ ρ' : Ren) : Prop := ∀ b L, ρ b = some L → ρ' b = some L
theorem Ren.le.refl (ρ : Ren) : ρ.le ρ := fun _ _ h => h
theorem Ren.le.trans {a b c : Ren} (h : a.le b) (g : b.le c) : a.le c := fun x L e => g x L (h x L e)

theorem VRel.mono {ρ ρ' : Ren} (hle : ρ.le ρ') {v v' : V} (h : VRel ρ v v') : VRel ρ' v v' := by
  induction h with
  | undef v => exact .undef v
  | skip => exact .skip
  | tok n => exact .tok n
  | bool b => exact .bool b
  | int k n => exact .int k n
  | float k n => exact .float k n
  | complex k a b => exact .complex k a b
  | string s => exact .string s
  | pnil => exact .pnil
  | ptr b o L h => exact .ptr b o L (hle _ _ h)
  | snil => exact .snil
  | slc b o u len cap L co ccap ca h ho hl hc hs hca => exact .slc b o u len cap L co ccap ca (hle _ _ h) ho hl hc hs hca
  | mnil => exact .mnil
  | map b L h => exact .map b L (hle _ _ h)
  | nilFunc => exact .nilFunc
  | nilIface => exact .nilIface
  | func fn x y x' y' hx hy _ _ ih ig => exact .func fn x y x' y' hx hy ih ig
  | iface t v v' _ ih => exact .iface t v v' ih
  | agg x x' hx _ ih => exact .agg x x' hx ih
  | tuple x x' hx _ ih => exact .tuple x x' hx ih

theorem LRel.mono {ρ ρ' : Ren} (hle : ρ.le ρ') {l l' : List V} (h : LRel ρ l l') : LRel ρ' l l' := by
  induction h with
  | nil => exact .nil
  | cons h _ ih => exact .cons (h.mono hle) ih

theorem LRel.length {ρ : Ren} {l l' : List V} (h : LRel ρ l l') : l.length = l'.length := by
  induction h with
  | nil => rfl
  | cons _ _ ih => simp [ih]

theorem LRel.get {ρ : Ren} {l l' : List V} (h : LRel ρ l l') : ∀ (i : Nat) (v : V), l[i]? = some v → ∃ v', l'[i]? = some v' ∧ VRel ρ v v' := by
  induction h with
  | nil => intro i v h; simp at h
  | cons h _ ih =>
    intro i v hi
    cases i with
    | zero => simp at hi; subst hi; exact ⟨_, rfl, h⟩
    | succ i => exact ih i v (by simpa using hi)

theorem LRel.of_get {ρ : Ren} : ∀ {l l' : List V}, l.length = l'.length → (∀ i (h : i < l.length) (h' : i < l'.length), VRel ρ l[i] l'[i]) → LRel ρ l l'
  | [], [], _, _ => .nil
  | [], _ :: _, h, _ => by simp at h
  | _ :: _, [], h, _ => by simp at h
  | x :: xs, y :: ys, h, g => .cons (g 0 (by simp) (by simp)) (LRel.of_get (by simpa using h) fun i h h' => g (i + 1) (by simpa using h) (by simpa using h'))

theorem LRel.getElem {ρ : Ren} {l l' : List V} (h : LRel ρ l l') (i : Nat) (hi : i < l.length) (hi' : i < l'.length) : VRel ρ l[i] l'[i] := by
  obtain ⟨v', h1, h2⟩ := h.get i l[i] (by simp [hi])
  have : l'[i] = v' := by simpa [hi'] using h1
  rw [this]; exact h2

theorem LRel.append {ρ : Ren} {a a' b b' : List V} (h : LRel ρ a a') (g : LRel ρ b b') : LRel ρ (a ++ b) (a' ++ b') := by
  induction h with
  | nil => exact g
  | cons h _ ih => exact .cons h ih

theorem LRel.take {ρ : Ren} {l l' : List V} (h : LRel ρ l l') : ∀ n, LRel ρ (l.take n) (l'.take n) := by
  induction h with
  | nil => intro n; simp; exact .nil
  | cons h _ ih => intro n; cases n with
    | zero => simp; exact .nil
    | succ n => simp; exact .cons h (ih n)

theorem LRel.drop {ρ : Ren} {l l' : List V} (h : LRel ρ l l') : ∀ n, LRel ρ (l.drop n) (l'.drop n) := by
  induction h with
  | nil => intro n; simp; exact .nil
  | cons h g ih => intro n; cases n with
    | zero => simp; exact .cons h g
    | succ n => simp; exact ih n

theorem LRel.set {ρ : Ren} {l l' : List V} (h : LRel ρ l l') {v v' : V} (hv : VRel ρ v v') : ∀ n, LRel ρ (l.set n v) (l'.set n v') := by
  induction h with
  | nil => intro n; simp; exact .nil
  | cons h g ih => intro n; cases n with
    | zero => simp; exact .cons hv g
    | succ n => simp; exact .cons h (ih n)

theorem VRel.agg' {ρ : Ren} {x x' : Array V} (h : LRel ρ x.toList x'.toList) : VRel ρ (.agg x) (.agg x') :=
  .agg x x' (by simpa using h.length) fun i hi hi' => by have := h.getElem i (by simpa using hi) (by simpa using hi'); simpa using this
theorem VRel.tuple' {ρ : Ren} {x x' : Array V} (h : LRel ρ x.toList x'.toList) : VRel ρ (.tuple x) (.tuple x') :=
  .tuple x x' (by simpa using h.length) fun i hi hi' => by have := h.getElem i (by simpa using hi) (by simpa using hi'); simpa using this
theorem arel {ρ : Ren} {x x' : Array V} (hx : x.size = x'.size) (h : ∀ i (h : i < x.size) (h' : i < x'.size), VRel ρ x[i] x'[i]) : LRel ρ x.toList x'.toList :=
  .of_get (by simpa using hx) fun i hi hi' => by simpa using h i (by simpa using hi) (by simpa using hi')

/-- A value of one cell on the abstract side is one on the real side, of the same kind. -/
theorem VRel.isOne {ρ : Ren} {v v' : V} (h : VRel ρ v v') (h1 : v.isOne = true) : v'.isOne = true := by
  cases h <;> simp_all [Value.isOne]

theorem cells_one {v : V} (h : v.isOne = true) : v.cells = #[v] := by
  cases v <;> simp_all [Value.isOne, Value.cells]

/-- What a value lays into cells. -/
theorem VRel.cells {ρ : Ren} {v v' : V} (h : VRel ρ v v') (h1 : v.cells.toList.all Value.isOne = true) : LRel ρ v.cells.toList v'.cells.toList := by
  cases h <;> first
    | (simp [Value.cells, Value.isOne] at h1; done)
    | (simp only [Value.cells]; exact .cons (by constructor <;> assumption) .nil)
    | (simp only [Value.cells]; exact arel (by assumption) (by assumption))

/-- the stamps of a map's entries: each above those ahead of it, all below the clock -/
def Born (E : Array MapEntry) (clk : Nat) : Prop := E.toList.Pairwise (fun a b => a.born < b.born) ∧ ∀ e ∈ E.toList, e.born < clk
theorem born_nil (c : Nat) : Born #[] c := ⟨.nil, fun e he => by simp at he⟩

/-- Of a block: what stands in the real one. -/
def BRel (N : Nat) (ρ : Ren) (w : World) (L : Loc) : Blk → Prop
  | .cells rw cs => ∃ C e f, w.heap[L.blk]? = some (.cells C e f) ∧ C.size = L.size ∧
      ((rw = true → N ≤ L.blk ∧ ∀ i, i < C.size → ¬ (f.1 ≤ i ∧ i < f.2)) ∧ (rw = false → L.off + cs.length = C.size)) ∧ L.off + cs.length ≤ C.size ∧ LRel ρ cs ((C.toList.drop L.off).take cs.length)
  | .map rw es => L.off = 0 ∧ ∃ E clk, w.heap[L.blk]? = some (.map E clk) ∧ (rw = true → N ≤ L.blk ∧ Born E clk) ∧ LRel ρ (es.map (·.1)) (E.toList.map (·.key)) ∧ LRel ρ (es.map (·.2)) (E.toList.map (·.val))
  | .siter s pos => L.off = 0 ∧ N ≤ L.blk ∧ w.heap[L.blk]? = some (.stringIter s pos)

/-- The abstract heap H is what the real world w holds, by the renaming ρ. Below N the world is as w₀ was. -/
structure Rel (N : Nat) (w₀ : World) (ρ : Ren) (H : Heap) (w : World) : Prop where
  below : Below N w₀ w
  big : N ≤ w.heap.size
  dom : ∀ b, H.next ≤ b → ρ b = none
  base : ∀ b, b < N → ∃ s, ρ b = some ⟨b, 0, s⟩
  blk : ∀ b x, H.get b = some x → ∃ L, ρ b = some L ∧ BRel N ρ w L x
  inj : ∀ b b' x x' L L', H.get b = some x → H.get b' = some x' → b ≠ b' → ρ b = some L → ρ b' = some L' → L.blk ≠ L'.blk

/-- Between two worlds: what lies outside the blocks that the abstract heap has is as it was. -/
def Apart (ρ : Ren) (H : Heap) (w w' : World) : Prop :=
  w.heap.size ≤ w'.heap.size ∧ ∀ c, c < w.heap.size → (∀ b x L, H.get b = some x → ρ b = some L → L.blk ≠ c) → w'.heap[c]? = w.heap[c]?

theorem BRel.mono {N : Nat} {ρ ρ' : Ren} (hle : ρ.le ρ') {w w' : World} {L : Loc} {x : Blk} (hw : w'.heap[L.blk]? = w.heap[L.blk]?) (h : BRel N ρ w L x) : BRel N ρ' w' L x := by
  cases x with
  | cells rw cs =>
    obtain ⟨C, e, f, h1, h2, h4, h5, h6⟩ := h
    exact ⟨C, e, f, hw.trans h1, h2, h4, h5, h6.mono hle⟩
  | map rw es =>
    obtain ⟨h0, E, clk, h1, h2, h3, h4⟩ := h
    exact ⟨h0, E, clk, hw.trans h1, h2, h3.mono hle, h4.mono hle⟩
  | siter s pos =>
    obtain ⟨h0, h1, h2⟩ := h
    exact ⟨h0, h1, hw.trans h2⟩

theorem Heap.get_lt {H : Heap} {b : Nat} {x : Blk} (h : H.get b = some x) : b < H.next := by
  rcases Nat.lt_or_ge b H.next with hl | hl
  · exact hl
  · rw [Heap.get_big hl] at h; cases h

theorem Heap.get_push (H : Heap) (x : Option Blk) (b : Nat) : (H.push x).get b = if b = H.next then x else H.get b := BT.get_put x b H.ok

theorem Heap.next_push (H : Heap) (x : Option Blk) : (H.push x).next = H.next + 1 := rfl
theorem Heap.next_set (H : Heap) (b : Nat) (x : Option Blk) : (H.set b x).next = H.next := rfl

theorem Heap.get_set (H : Heap) (b : Nat) (x : Option Blk) (c : Nat) (hb : b < H.next) : (H.set b x).get c = if c = b then x else H.get c := by
  show (H.tree.set b x).get c = _
  rw [BT.get_set b x c H.ok]
  by_cases h : c = b
  · rw [if_pos h, if_pos ⟨h, hb⟩]
  · rw [if_neg h, if_neg (fun q => h q.1)]; rfl

def Ren.add (ρ : Ren) (b : Nat) (L : Loc) : Ren := fun c => if c = b then some L else ρ c

theorem Ren.le_add {ρ : Ren} {b : Nat} (L : Loc) (h : ρ b = none) : ρ.le (ρ.add b L) := by
  intro c K hc
  unfold Ren.add
  split
  · rename_i e; rw [e, h] at hc; cases hc
  · exact hc

section
variable {N : Nat} {w₀ : World} {ρ : Ren} {H : Heap} {w : World}

theorem Rel.lt (h : Rel N w₀ ρ H w) {b : Nat} {x : Blk} {L : Loc} (hb : H.get b = some x) (hL : ρ b = some L) : L.blk < w.heap.size := by
  obtain ⟨K, hK, hr⟩ := h.blk b x hb
  rw [hL] at hK; cases hK
  have key : ∀ o, w.heap[L.blk]? = some o → L.blk < w.heap.size := fun o ho => by
    rcases Nat.lt_or_ge L.blk w.heap.size with hl | hl
    · exact hl
    · simp [Array.getElem?_eq_none hl] at ho
  cases x with
  | cells rw cs => obtain ⟨C, e, f, h1, _⟩ := hr; exact key _ h1
  | map rw es => obtain ⟨_, E, clk, h1, _⟩ := hr; exact key _ h1
  | siter s pos => exact key _ hr.2.2

/-- A new block. -/
theorem Rel.alloc (h : Rel N w₀ ρ H w) (x : Blk) (o : Obj) (L : Loc) (hL : L.blk = w.heap.size)
    (hx : BRel N (ρ.add H.next L) { w with heap := w.heap.push o } L x) : Rel N w₀ (ρ.add H.next L) (H.push (some x)) { w with heap := w.heap.push o } := by
  have hno : ρ H.next = none := h.dom _ (Nat.le_refl _)
  have hle := Ren.le_add L hno
  have hold : ∀ k, k < w.heap.size → ({ w with heap := w.heap.push o } : World).heap[k]? = w.heap[k]? := fun k hk => by
    show (w.heap.push o)[k]? = _
    rw [Array.getElem?_push, if_neg (by omega)]
  refine ⟨?_, ?_, ?_, fun b hb => by obtain ⟨s, hs⟩ := h.base b hb; exact ⟨s, hle _ _ hs⟩, ?_, ?_⟩
  · exact h.below.trans ⟨rfl, rfl, rfl, by simp, fun k hk => hold k (Nat.lt_of_lt_of_le hk h.big)⟩
  · have := h.big; simp; omega
  · intro b hb
    rw [Heap.next_push] at hb
    unfold Ren.add
    rw [if_neg (by omega)]
    exact h.dom b (by omega)
  · intro b y hy
    rw [Heap.get_push] at hy
    split at hy
    · rename_i e
      cases hy; subst e
      exact ⟨L, by simp [Ren.add], hx⟩
    · rename_i e
      obtain ⟨K, hK, hr⟩ := h.blk b y hy
      exact ⟨K, hle _ _ hK, hr.mono hle (hold _ (h.lt hy hK))⟩
  · intro b b' y y' K K' hy hy' hne hK hK'
    rw [Heap.get_push] at hy hy'
    unfold Ren.add at hK hK'
    by_cases e : b = H.next
    · have e' : b' ≠ H.next := fun q => hne (e.trans q.symm)
      rw [if_pos e] at hy hK; rw [if_neg e'] at hy' hK'
      cases hK
      have := h.lt hy' hK'
      omega
    · by_cases e' : b' = H.next
      · rw [if_neg e] at hy hK; rw [if_pos e'] at hy' hK'
        cases hK'
        have := h.lt hy hK
        omega
      · rw [if_neg e] at hy hK; rw [if_neg e'] at hy' hK'
        exact h.inj b b' y y' K K' hy hy' hne hK hK'

/-- A block of the call's own turns: the abstract block b and the real one. -/
theorem Rel.put (h : Rel N w₀ ρ H w) {b : Nat} {x y : Blk} {L : Loc} (hb : H.get b = some x) (hL : ρ b = some L) (hN : N ≤ L.blk) (w' : World)
    (hos : w'.os = w.os) (htape : w'.tape = w.tape) (hout : w'.output = w.output) (hsz : w'.heap.size = w.heap.size)
    (hold : ∀ k, k ≠ L.blk → w'.heap[k]? = w.heap[k]?) (hy : BRel N ρ w' L y) : Rel N w₀ ρ (H.set b (some y)) w' := by
  have hlt := Heap.get_lt hb
  refine ⟨?_, ?_, ?_, h.base, ?_, ?_⟩
  · exact h.below.trans ⟨hos, htape, hout, by omega, fun k hk => hold k (by omega)⟩
  · rw [hsz]; exact h.big
  · intro c hc; rw [Heap.next_set] at hc; exact h.dom c hc
  · intro c z hz
    rw [Heap.get_set H b _ c hlt] at hz
    split at hz
    · rename_i e; cases hz; subst e; exact ⟨L, hL, hy⟩
    · rename_i e
      obtain ⟨K, hK, hr⟩ := h.blk c z hz
      exact ⟨K, hK, hr.mono (Ren.le.refl _) (hold _ (h.inj c b z x K L hz hb e hK hL))⟩
  · intro c c' z z' K K' hz hz' hne hK hK'
    rw [Heap.get_set H b _ _ hlt] at hz hz'
    have hz2 : ∃ q, H.get c = some q := by split at hz; · rename_i e; subst e; exact ⟨_, hb⟩
                                           · exact ⟨_, hz⟩
    have hz2' : ∃ q, H.get c' = some q := by split at hz'; · rename_i e; subst e; exact ⟨_, hb⟩
                                             · exact ⟨_, hz'⟩
    obtain ⟨q, hq⟩ := hz2; obtain ⟨q', hq'⟩ := hz2'
    exact h.inj c c' q q' K K' hq hq' hne hK hK'

/-- A block is given up. -/
theorem Rel.kill (h : Rel N w₀ ρ H w) {b : Nat} {x : Blk} (hb : H.get b = some x) : Rel N w₀ ρ (H.set b none) w := by
  have hlt := Heap.get_lt hb
  refine ⟨h.below, h.big, fun c hc => h.dom c (by rwa [Heap.next_set] at hc), h.base, fun c z hz => ?_, fun c c' z z' K K' hz hz' hne hK hK' => ?_⟩
  · rw [Heap.get_set H b _ c hlt] at hz
    split at hz
    · cases hz
    · exact h.blk c z hz
  · rw [Heap.get_set H b _ _ hlt] at hz hz'
    split at hz
    · cases hz
    · split at hz'
      · cases hz'
      · exact h.inj c c' z z' K K' hz hz' hne hK hK'

/-- A draw turns nothing. -/
theorem Rel.drew (h : Rel N w₀ ρ H w) (n : Nat) : Rel N w₀ ρ H { w with drawn := n } :=
  ⟨⟨h.below.os, h.below.tape, h.below.output, h.below.size, h.below.block⟩, h.big, h.dom, h.base, fun b x hb => by obtain ⟨L, hL, hr⟩ := h.blk b x hb; exact ⟨L, hL, hr.mono (Ren.le.refl _) rfl⟩, h.inj⟩

theorem Apart.refl (ρ : Ren) (H : Heap) (w : World) : Apart ρ H w w := ⟨Nat.le_refl _, fun _ _ _ => rfl⟩

end
end Go.AM
