import Derived.Calls
import Derived.Below
import Derived.KernelRfl
set_option linter.all false
/- The abstract machine: a deterministic reading of the model's code over blocks with abstract numbers. -/
namespace Go.AM

abbrev V := Value

/-- the value of one cell -/
def _root_.Go.Value.isOne : Value → Bool
  | .agg _ | .tuple _ | .chan _ => false
  | _ => true

/-- A block: cells (may they be written?), a map, a string's iterator. An abstract slice bears, in its address's third part, the size of an element (0: it may not be appended to). -/
inductive Blk where
  | cells (rw : Bool) (cs : List V)
  | map (rw : Bool) (es : List (V × V))
  | siter (s : ByteArray) (pos : Nat)

/-- no mark for what is not known -/
def _root_.Go.Value.isSolid : Value → Bool
  | .tuple _ | .chan _ => false
  | _ => true

/-- a tree of blocks, filled place by place (so its form hangs on how many there are alone) -/
inductive BT where
  | nil
  | node (v : Option Blk) (l r : BT)
namespace BT
def get : BT → Nat → Option Blk
  | nil, _ => none
  | node v l r, i => bif Nat.beq i 0 then v else bif Nat.beq (i % 2) 1 then get l (i / 2) else get r (i / 2 - 1)
def set : BT → Nat → Option Blk → BT
  | nil, _, _ => nil
  | node v l r, i, x => bif Nat.beq i 0 then node x l r else bif Nat.beq (i % 2) 1 then node v (set l (i / 2) x) r else node v l (set r (i / 2 - 1) x)
def put : BT → Nat → Option Blk → BT
  | nil, _, x => node x nil nil
  | node v l r, i, x => bif Nat.beq (i % 2) 1 then node v (put l (i / 2) x) r else node v l (put r (i / 2 - 1) x)
/-- of so many places -/
def wf : BT → Nat → Prop
  | nil, n => n = 0
  | node _ l r, n => 0 < n ∧ wf l (n / 2) ∧ wf r ((n - 1) / 2)
theorem beq_eq {a b : Nat} : Nat.beq a b = decide (a = b) := by
  cases h : Nat.beq a b with
  | true => have := Nat.eq_of_beq_eq_true h; simp [this]
  | false => have := Nat.ne_of_beq_eq_false h; simp [this]
theorem get_node (v : Option Blk) (l r : BT) (i : Nat) : get (node v l r) i = if i = 0 then v else if i % 2 = 1 then get l (i / 2) else get r (i / 2 - 1) := by
  simp only [get, beq_eq]
  by_cases h : i = 0 <;> by_cases h2 : i % 2 = 1 <;> simp [h, h2]
theorem set_node (v : Option Blk) (l r : BT) (i : Nat) (x : Option Blk) : set (node v l r) i x = if i = 0 then node x l r else if i % 2 = 1 then node v (set l (i / 2) x) r else node v l (set r (i / 2 - 1) x) := by
  simp only [set, beq_eq]
  by_cases h : i = 0 <;> by_cases h2 : i % 2 = 1 <;> simp [h, h2]
theorem put_node (v : Option Blk) (l r : BT) (i : Nat) (x : Option Blk) : put (node v l r) i x = if i % 2 = 1 then node v (put l (i / 2) x) r else node v l (put r (i / 2 - 1) x) := by
  simp only [put, beq_eq]
  by_cases h2 : i % 2 = 1 <;> simp [h2]
theorem get_big : ∀ {t : BT} {n i : Nat}, wf t n → n ≤ i → get t i = none
  | nil, _, _, _, _ => rfl
  | node v l r, n, i, ⟨h0, h1, h2⟩, hi => by
    rw [get_node, if_neg (by omega)]
    split
    · exact get_big h1 (by omega)
    · exact get_big h2 (by omega)
theorem wf_set : ∀ {t : BT} {n : Nat} (i : Nat) (x : Option Blk), wf t n → wf (set t i x) n
  | nil, _, _, _, h => h
  | node v l r, n, i, x, ⟨h0, h1, h2⟩ => by
    rw [set_node]
    split
    · exact ⟨h0, h1, h2⟩
    · split
      · exact ⟨h0, wf_set _ _ h1, h2⟩
      · exact ⟨h0, h1, wf_set _ _ h2⟩
theorem wf_put : ∀ {t : BT} {n : Nat} (x : Option Blk), wf t n → wf (put t n x) (n + 1)
  | nil, n, x, h => by
    have : n = 0 := h
    subst this
    exact ⟨by omega, rfl, rfl⟩
  | node v l r, n, x, ⟨h0, h1, h2⟩ => by
    rw [put_node]
    split
    · refine ⟨by omega, ?_, ?_⟩
      · rw [show (n + 1) / 2 = n / 2 + 1 by omega]; exact wf_put x h1
      · rw [show (n + 1 - 1) / 2 = (n - 1) / 2 by omega]; exact h2
    · refine ⟨by omega, ?_, ?_⟩
      · rw [show (n + 1) / 2 = n / 2 by omega]; exact h1
      · have h2' : wf r (n / 2 - 1) := by rw [show n / 2 - 1 = (n - 1) / 2 by omega]; exact h2
        rw [show (n + 1 - 1) / 2 = n / 2 - 1 + 1 by omega]; exact wf_put x h2'
theorem get_put : ∀ {t : BT} {n : Nat} (x : Option Blk) (i : Nat), wf t n → get (put t n x) i = if i = n then x else get t i
  | nil, n, x, i, h => by
    have : n = 0 := h
    subst this
    show get (node x nil nil) i = _
    rw [get_node]
    by_cases h : i = 0
    · rw [if_pos h, if_pos h]
    · rw [if_neg h, if_neg h]; split <;> rfl
  | node v l r, n, x, i, ⟨h0, h1, h2⟩ => by
    rw [put_node]
    by_cases hn : n % 2 = 1
    · rw [if_pos hn, get_node, get_node]
      by_cases hi : i = 0
      · rw [if_pos hi, if_neg (by omega), if_pos hi]
      · rw [if_neg hi, if_neg hi]
        by_cases hi2 : i % 2 = 1
        · rw [if_pos hi2, if_pos hi2, get_put x _ h1]
          by_cases he : i = n
          · rw [if_pos he, if_pos (by omega)]
          · rw [if_neg he, if_neg (by omega)]
        · rw [if_neg hi2, if_neg hi2, if_neg (by omega)]
    · have h2' : wf r (n / 2 - 1) := by rw [show n / 2 - 1 = (n - 1) / 2 by omega]; exact h2
      rw [if_neg hn, get_node, get_node]
      by_cases hi : i = 0
      · rw [if_pos hi, if_neg (by omega), if_pos hi]
      · rw [if_neg hi, if_neg hi]
        by_cases hi2 : i % 2 = 1
        · rw [if_pos hi2, if_pos hi2, if_neg (by omega)]
        · rw [if_neg hi2, if_neg hi2, get_put x _ h2']
          by_cases he : i = n
          · rw [if_pos he, if_pos (by omega)]
          · rw [if_neg he, if_neg (by omega)]
theorem get_set : ∀ {t : BT} {n : Nat} (b : Nat) (x : Option Blk) (i : Nat), wf t n → get (set t b x) i = if i = b ∧ b < n then x else get t i
  | nil, n, b, x, i, h => by
    have : n = 0 := h
    rw [if_neg (by omega)]; rfl
  | node v l r, n, b, x, i, ⟨h0, h1, h2⟩ => by
    rw [set_node]
    by_cases hb : b = 0
    · rw [if_pos hb, get_node, get_node]
      by_cases hi : i = 0
      · rw [if_pos hi, if_pos (show i = b ∧ b < n by omega)]
      · rw [if_neg hi, if_neg hi, if_neg (show ¬ (i = b ∧ b < n) by omega)]
    · rw [if_neg hb]
      by_cases hb2 : b % 2 = 1
      · rw [if_pos hb2, get_node, get_node]
        by_cases hi : i = 0
        · rw [if_pos hi, if_pos hi, if_neg (show ¬ (i = b ∧ b < n) by omega)]
        · rw [if_neg hi, if_neg hi]
          by_cases hi2 : i % 2 = 1
          · rw [if_pos hi2, if_pos hi2, get_set _ _ _ h1]
            by_cases he : i = b ∧ b < n
            · rw [if_pos he, if_pos (by omega)]
            · rw [if_neg he, if_neg (by omega)]
          · rw [if_neg hi2, if_neg hi2, if_neg (show ¬ (i = b ∧ b < n) by omega)]
      · rw [if_neg hb2, get_node, get_node]
        by_cases hi : i = 0
        · rw [if_pos hi, if_pos hi, if_neg (show ¬ (i = b ∧ b < n) by omega)]
        · rw [if_neg hi, if_neg hi]
          by_cases hi2 : i % 2 = 1
          · rw [if_pos hi2, if_pos hi2, if_neg (show ¬ (i = b ∧ b < n) by omega)]
          · rw [if_neg hi2, if_neg hi2, get_set _ _ _ h2]
            by_cases he : i = b ∧ b < n
            · rw [if_pos he, if_pos (by omega)]
            · rw [if_neg he, if_neg (by omega)]
theorem get_left (v : Option Blk) (l r : BT) (i : Nat) : get (node v l r) (2 * i + 1) = get l i := by
  rw [get_node, if_neg (show ¬ 2 * i + 1 = 0 by omega), if_pos (show (2 * i + 1) % 2 = 1 by omega), show (2 * i + 1) / 2 = i by omega]
theorem get_right (v : Option Blk) (l r : BT) (i : Nat) : get (node v l r) (2 * i + 2) = get r i := by
  rw [get_node, if_neg (show ¬ 2 * i + 2 = 0 by omega), if_neg (show ¬ (2 * i + 2) % 2 = 1 by omega), show (2 * i + 2) / 2 - 1 = i by omega]
theorem ext : ∀ {t u : BT} {n : Nat}, wf t n → wf u n → (∀ i, i < n → get t i = get u i) → t = u
  | nil, nil, _, _, _, _ => rfl
  | nil, node _ _ _, n, h, ⟨h0, _, _⟩, _ => by have : n = 0 := h; omega
  | node _ _ _, nil, n, ⟨h0, _, _⟩, h, _ => by have : n = 0 := h; omega
  | node v l r, node v' l' r', n, ⟨h0, h1, h2⟩, ⟨_, g1, g2⟩, h => by
    have e0 := h 0 h0
    rw [get_node, get_node, if_pos rfl, if_pos rfl] at e0
    have e1 : l = l' := ext h1 g1 fun i hi => by
      have := h (2 * i + 1) (by omega)
      rwa [get_left, get_left] at this
    have e2 : r = r' := ext h2 g2 fun i hi => by
      have := h (2 * i + 2) (by omega)
      rwa [get_right, get_right] at this
    rw [e0, e1, e2]
end BT

structure Heap where
  tree : BT
  next : Nat
  ok : tree.wf next

namespace Heap
def get (H : Heap) (b : Nat) : Option Blk := H.tree.get b
def set (H : Heap) (b : Nat) (x : Option Blk) : Heap := ⟨H.tree.set b x, H.next, BT.wf_set b x H.ok⟩
def push (H : Heap) (x : Option Blk) : Heap := ⟨H.tree.put H.next x, H.next + 1, BT.wf_put x H.ok⟩
def cell (H : Heap) (b o : Nat) : Option V := match H.get b with | some (.cells _ cs) => cs[o]? | _ => none
def none0 : Heap := ⟨.nil, 0, rfl⟩
def one (x : Blk) : Heap := none0.push (some x)
theorem get_big {H : Heap} {b : Nat} (h : H.next ≤ b) : H.get b = none := BT.get_big H.ok h
theorem same {H H' : Heap} (hn : H.next = H'.next) (hg : ∀ b, b < H.next → H.get b = H'.get b) : H = H' := by
  obtain ⟨t, n, ok⟩ := H
  obtain ⟨t', n', ok'⟩ := H'
  cases hn
  have : t = t' := BT.ext ok ok' hg
  subst this; rfl
/-- a heap of so many blocks -/
def mk0 : Nat → (Nat → Option Blk) → Heap
  | 0, _ => none0
  | n + 1, f => (mk0 n f).push (f n)
theorem mk0_next : ∀ (n : Nat) (f : Nat → Option Blk), (mk0 n f).next = n
  | 0, _ => rfl
  | n + 1, f => by show (mk0 n f).next + 1 = _; rw [mk0_next n f]
theorem mk0_get : ∀ (n : Nat) (f : Nat → Option Blk) (b : Nat), (mk0 n f).get b = if b < n then f b else none
  | 0, _, _ => rfl
  | n + 1, f, b => by
    show (((mk0 n f).tree.put (mk0 n f).next (f n))).get b = _
    rw [BT.get_put _ _ (mk0 n f).ok, mk0_next]
    have := mk0_get n f b
    by_cases h : b = n
    · subst h; rw [if_pos rfl, if_pos (by omega)]
    · rw [if_neg h]
      show (mk0 n f).get b = _
      rw [this]
      by_cases h2 : b < n
      · rw [if_pos h2, if_pos (by omega)]
      · rw [if_neg h2, if_neg (by omega)]
def one? (K : Heap) : Option Blk := bif Nat.beq K.next 1 then K.get 0 else none
theorem one?_one (x : Blk) : (one x).one? = some x := rfl
theorem one?_inv {K : Heap} {x : Blk} (h : K.one? = some x) : K = one x := by
  unfold one? at h
  cases hb : Nat.beq K.next 1 with
  | false => rw [hb] at h; cases h
  | true =>
    rw [hb] at h
    have hn := Nat.eq_of_beq_eq_true hb
    refine same hn fun b hb' => ?_
    have : b = 0 := by omega
    subst this
    exact h
end Heap

def M (α : Type) := Heap → Option (α × Heap)
def ret {α : Type} (a : α) : M α := fun H => some (a, H)
def bnd {α β : Type} (m : M α) (k : α → M β) : M β := fun H => match m H with | some (a, H') => k a H' | none => none
def fail {α : Type} : M α := fun _ => none
def lift {α : Type} (o : Option α) : M α := fun H => match o with | some a => some (a, H) | none => none
/-- Go on only where a test holds. -/
def need (b : Bool) {α : Type} (m : M α) : M α := fun H => if b then m H else none

abbrev ptr (b o : Nat) : V := .pointer (some ⟨b, o, none⟩)
abbrev slc (b o u len cap : Nat) : V := .slice (some ⟨b, o, some u⟩) len cap
abbrev i64 (n : Int) : V := .int .i64 n

/-! ### values -/

def splice (cs : List V) (o : Nat) (l : List V) : List V := cs.take o ++ (l ++ cs.drop (o + l.length))

def fillA : List V → List (Nat × Nat × V) → Option (List V)
  | cs, [] => some cs
  | cs, (off, size, v) :: rest =>
    if (v.cells.toList.all Value.isOne && v.cells.size == size && decide (off + size ≤ cs.length)) = true then fillA (splice cs off v.cells.toList) rest else none

def pickV (c a b : V) : Option V := match c with | .bool true => some a | .bool false => some b | _ => none

def ibits (op : BinOp) (k : IntKind) (x y : Int) : Option V :=
  let a := BitVec.ofInt k.bits x
  let b := BitVec.ofInt k.bits y
  match op with
  | .and => some (.int k (k.wrap (a &&& b).toNat))
  | .or => some (.int k (k.wrap (a ||| b).toNat))
  | .xor => some (.int k (k.wrap (a ^^^ b).toNat))
  | .andNot => some (.int k (k.wrap (a &&& ~~~b).toNat))
  | _ => none

def ibin (op : BinOp) (k : IntKind) (x y : Int) : Option V :=
  match op with
  | .add => some (.int k (k.wrap (x + y)))
  | .sub => some (.int k (k.wrap (x - y)))
  | .mul => some (.int k (k.wrap (x * y)))
  | .quo => if y = 0 then none else some (.int k (k.wrap (x.tdiv y)))
  | .rem => if y = 0 then none else some (.int k (x.tmod y))
  | .eql => some (.bool (x == y))
  | .neq => some (.bool (x != y))
  | .lss => some (.bool (decide (x < y)))
  | .leq => some (.bool (decide (x ≤ y)))
  | .gtr => some (.bool (decide (x > y)))
  | .geq => some (.bool (decide (x ≥ y)))
  | op => ibits op k x y

def ishift (op : BinOp) (k : IntKind) (x y : Int) : Option V :=
  if y < 0 then none else
  match op with
  | .shl => some (.int k (k.wrap (x * 2 ^ (min y.toNat k.bits))))
  | .shr => some (.int k (x.fdiv (2 ^ (min y.toNat k.bits))))
  | _ => none

def sbin (op : BinOp) (x y : ByteArray) : Option V :=
  match op with
  | .add => if x.size + y.size ≤ 4611686018427387904 then some (.string (x ++ y)) else none
  | .eql => some (.bool (decide (x = y)))
  | .neq => some (.bool (!decide (x = y)))
  | .lss => some (.bool (Op.bytesLess x.toList y.toList))
  | .leq => some (.bool (Op.bytesLess x.toList y.toList || decide (x = y)))
  | .gtr => some (.bool (!(Op.bytesLess x.toList y.toList || decide (x = y))))
  | .geq => some (.bool (!Op.bytesLess x.toList y.toList))
  | _ => none

/-- numbers and strings -/
def bin (op : BinOp) (a b : V) : Option V :=
  match a, b with
  | .int k x, .int k' y =>
    match op with
    | .shl => ishift .shl k x y
    | .shr => ishift .shr k x y
    | op => if k = k' then ibin op k x y else none
  | .string x, .string y => sbin op x y
  | _, _ => none

def un (op : UnOp) (a : V) : Option V :=
  match op, a with
  | .neg, .int k n => some (.int k (k.wrap (0 - n)))
  | .xor, .int k n => ibits .xor k (if k.signed then -1 else k.max) n
  | .not, .bool b => some (.bool (!b))
  | _, _ => none

/-- the kinds of which == can be told at once -/
inductive FK where
  | b | i | s

def eqK : FK → V → V → Option Bool
  | .b, .bool a, .bool b => some (a == b)
  | .i, .int k a, .int k' b => if k = k' then some (a == b) else none
  | .s, .string a, .string b => some (decide (a = b))
  | _, _, _ => none

def eqKs : List FK → List V → List V → Option Bool
  | [], [], [] => some true
  | k :: ks, x :: xs, y :: ys => match eqK k x y with
    | some true => eqKs ks xs ys
    | some false => some false
    | none => none
  | _, _, _ => none

def eqAgg (ks : List FK) (a b : V) : Option Bool := match a, b with | .agg xs, .agg ys => eqKs ks xs.toList ys.toList | _, _ => none

/-- is it nil? (pointers, slices, maps, functions, interfaces) -/
inductive NK where
  | p | s | m | f | i

def isNil : NK → V → Option Bool
  | .p, .pointer a => some a.isNone
  | .s, .slice a _ _ => some a.isNone
  | .m, .map a => some a.isNone
  | .f, .nilFunc => some true
  | .f, .func _ _ _ => some false
  | .i, .nilIface => some true
  | .i, .iface _ _ => some false
  | _, _ => none

def notIf (neg : Bool) (o : Option Bool) : Option V := match o with | some b => some (.bool (if neg then !b else b)) | none => none

def cvi (k : IntKind) (a : V) : Option V := match a with | .int _ n => some (.int k (k.wrap n)) | _ => none

def fld1 (off : Nat) (a : V) : Option V := match a with | .agg cs => cs.toList[off]? | _ => none
def fldn (off n : Nat) (a : V) : Option V := match a with
  | .agg cs => if off + n ≤ cs.toList.length then some (.agg ((cs.toList.drop off).take n).toArray) else none
  | _ => none

def idxS (a i : V) : Option V := match a, i with
  | .string s, .int _ i => if 0 ≤ i then (match s[i.toNat]? with | some b => some (.int .u8 b.toNat) | none => none) else none
  | _, _ => none
def idxA1 (n : Nat) (a i : V) : Option V := match a, i with
  | .agg cs, .int _ i => if 0 ≤ i ∧ i < n then cs.toList[i.toNat]? else none
  | _, _ => none
def idxAn (n size : Nat) (a i : V) : Option V := match i with
  | .int _ i => if 0 ≤ i ∧ i < n then fldn (i.toNat * size) size a else none
  | _ => none

def faddr (off : Nat) (a : V) : Option V := match a with | .pointer (some ⟨b, o, none⟩) => some (ptr b (o + off)) | _ => none
def iaddrS (size : Nat) (a i : V) : Option V := match a, i with
  | .slice (some ⟨b, o, some _⟩) len _, .int _ i => if 0 ≤ i ∧ i < len then some (ptr b (o + i.toNat * size)) else none
  | _, _ => none
def iaddrA (n size : Nat) (a i : V) : Option V := match a, i with
  | .pointer (some ⟨b, o, none⟩), .int _ i => if 0 ≤ i ∧ i < n then some (ptr b (o + i.toNat * size)) else none
  | _, _ => none

/-- a bound that is given or not -/
def bound (d most : Nat) (x : Option V) : Option Nat := match x with
  | none => some d
  | some (.int _ i) => if 0 ≤ i ∧ i ≤ most then some i.toNat else none
  | some _ => none

/-- cap(s), where it is known: of nil -/
def capV : V → Option V
  | .slice none 0 0 => some (i64 0)
  | _ => none
def subS (a : V) (lo hi : Option V) : Option V := match a with
  | .string s => match bound s.size s.size hi with
    | some h => match bound 0 h lo with
      | some l => some (.string (s.extract l h))
      | none => none
    | none => none
  | _ => none

def cutAt (b o u l h m size : Nat) : V := if m = l then slc b o u (h - l) (m - l) else slc b (o + l * size) u (h - l) (m - l)

def subV (size : Nat) (a : V) (lo hi : Option V) : Option V := match a with
  | .slice x len cap =>
    match bound len cap hi with
    | some h => match bound 0 h lo with
      | some l => match x with
        | none => some (.slice none (h - l) (cap - l))
        | some ⟨b, o, some u⟩ => if u = size ∨ u = 0 then some (cutAt b o u l h cap size) else none
        | _ => none
      | none => none
    | none => none
  | _ => none

def subA (n size : Nat) (a : V) (lo hi : Option V) : Option V := match a with
  | .pointer (some ⟨b, o, none⟩) =>
    match bound n n hi with
    | some h => match bound 0 h lo with
      | some l => some (cutAt b o 0 l h n size)
      | none => none
    | none => none
  | _ => none

def ext (i : Nat) (a : V) : Option V := match a with | .tuple vs => vs.toList[i]? | _ => none

def nilck (a : V) : Option V := match a with
  | .pointer (some a) => some (.pointer (some a))
  | .func (.func f) x y => some (.func (.func f) x y)
  | _ => none

def minV (a b : V) : Option V := match a, b with | .int k x, .int _ y => some (.int k (if y < x then y else x)) | _, _ => none
def maxV (a b : V) : Option V := match a, b with | .int k x, .int _ y => some (.int k (if y > x then y else x)) | _, _ => none

/-- values that hold no address -/
def flatV : V → Bool
  | .bool _ | .int _ _ | .float _ _ | .complex _ _ _ | .string _ | .pointer none | .slice none 0 0 | .map none | .nilFunc | .nilIface => true
  | _ => false
/-! ### memory -/

def ld1 (p : V) : M V := fun H => match p with
  | .pointer (some ⟨b, o, none⟩) => match H.cell b o with | some v => some (v, H) | none => none
  | _ => none

def cellsAt (H : Heap) (b o n : Nat) : Option (List V) := match H.get b with
  | some (.cells _ cs) => if o + n ≤ cs.length then some ((cs.drop o).take n) else none
  | _ => none

def ldn (n : Nat) (p : V) : M V := fun H => match p with
  | .pointer (some ⟨b, o, none⟩) => match cellsAt H b o n with | some l => some (.agg l.toArray, H) | none => none
  | _ => none

def st1 (p v : V) : M V := fun H => match p with
  | .pointer (some ⟨b, o, none⟩) => match H.get b with
    | some (.cells true cs) => if (v.isOne && decide (o < cs.length)) = true then some (undef, H.set b (some (.cells true (cs.set o v)))) else none
    | _ => none
  | _ => none

def stn (n : Nat) (p v : V) : M V := fun H => match p, v with
  | .pointer (some ⟨b, o, none⟩), .agg vs => match H.get b with
    | some (.cells true cs) =>
      if (vs.toList.all Value.isOne && vs.toList.length == n && decide (o + n ≤ cs.length)) = true then some (undef, H.set b (some (.cells true (splice cs o vs.toList)))) else none
    | _ => none
  | _, _ => none

def newc (cs : List V) : M V := fun H => if cs.all flatV = true then some (ptr H.next 0, H.push (some (.cells true cs))) else none
def boxv (v : V) : M V := fun H => if v.cells.toList.all Value.isOne = true then some (ptr H.next 0, H.push (some (.cells true v.cells.toList))) else none
def build (zero : List V) (parts : List (Nat × Nat × V)) : Option V := if zero.all flatV = true then (match fillA zero parts with | some cs => some (.agg cs.toArray) | none => none) else none
def bslc (size len : Nat) (zero : List V) (parts : List (Nat × Nat × V)) : M V := fun H => if zero.all flatV = true then (match fillA zero parts with
  | some cs => some (slc H.next 0 size len len, H.push (some (.cells true cs)))
  | none => none) else none

def rep (n : Nat) (zero : List V) : List V := match n with | 0 => [] | n + 1 => zero ++ rep n zero

/-- make([]T, n, c) -/
def mkslc (size bytes : Nat) (zero : List V) (n c : V) : M V := fun H => match n, c with
  | .int _ n, .int _ c => if zero.all flatV = true ∧ 0 ≤ n ∧ n ≤ c ∧ c ≤ 140737488355328 ∧ bytes * c ≤ 140737488355328 then some (slc H.next 0 size n.toNat c.toNat, H.push (some (.cells true (rep c.toNat zero)))) else none
  | _, _ => none

def bytesV (s : ByteArray) : List V := s.data.toList.map fun b => .int .u8 b.toNat
def s2b (a : V) : M V := fun H => match a with
  | .string s => if s.size < 9223372036854775807 then some (slc H.next 0 1 s.size s.size, H.push (some (.cells true (bytesV s)))) else none
  | _ => none

def byteOf? : V → Option UInt8 | .int .u8 n => some (UInt8.ofNat n.toNat) | _ => none
def bytesOf? : List V → Option (List UInt8)
  | [] => some []
  | v :: vs => match byteOf? v with | some b => (match bytesOf? vs with | some l => some (b :: l) | none => none) | none => none

def b2s (a : V) : M V := fun H => match a with
  | .slice none _ _ => some (.string .empty, H)
  | .slice (some ⟨b, o, some _⟩) len _ => match cellsAt H b o len with
    | some l => match bytesOf? l with | some bs => some (.string ⟨bs.toArray⟩, H) | none => none
    | none => none
  | _ => none

/-- the cells of a slice -/
def cellsOfSlice (H : Heap) (size : Nat) (a : V) : Option (List V) := match a with
  | .slice none 0 _ => some []
  | .slice (some ⟨b, o, some _⟩) len _ => if len = 0 then some [] else cellsAt H b o (len * size)
  | _ => none

def sliceLen : V → Nat | .slice _ n _ => n | .string s => s.size | _ => 0

/-- the block that a slice lies over is given up (it must be the call's own) -/
def giveUp (H : Heap) (size : Nat) (a : V) : Option Heap := match a with
  | .slice none _ _ => some H
  | .slice (some ⟨b, _, some u⟩) _ _ => match H.get b with
    | some (.cells true _) => if u = size then some (H.set b none) else none
    | _ => none
  | _ => none

def appTo (size bytes : Nat) (s : V) (n : Nat) (new : Option (List V)) : M V := fun H =>
  match s with
  | .slice x len cap =>
    if n = 0 then some (.slice x len cap, H) else
    match new, cellsOfSlice H size s, giveUp H size s with
    | some new, some old, some H' =>
      if (len + n) * bytes ≤ 35184372088832 ∧ len + n ≤ 35184372088832 ∧ new.all Value.isOne = true ∧ new.length = n * size then some (slc H'.next 0 size (len + n) (len + n), H'.push (some (.cells true (old ++ new)))) else none
    | _, _, _ => none
  | _ => none

/-- append(s, x...), x a slice -/
def appV (size bytes : Nat) (s x : V) : M V := fun H => match x with
  | .slice a n c => appTo size bytes s n (cellsOfSlice H size (.slice a n c)) H
  | _ => none
/-- append(s, x...), x a string -/
def appS (s x : V) : M V := fun H => match x with
  | .string t => appTo 1 1 s t.size (some (bytesV t)) H
  | _ => none

/-- append(s, make([]T, n)...) -/
def appZ (size bytes : Nat) (zero : List V) (s x : V) : M V := fun H => match x with
  | .int _ n => if zero.all flatV = true ∧ 0 ≤ n ∧ n.toNat * bytes ≤ 35184372088832 ∧ n.toNat ≤ 35184372088832 then appTo size bytes s n.toNat (some (rep n.toNat zero)) H else none
  | _ => none

/-- what is copied -/
def cpySrc (H : Heap) (size n : Nat) (x : V) : Option (List V) := match x with
  | .string t => some ((bytesV t).take n)
  | .slice none _ _ => some []
  | .slice (some ⟨b, o, some _⟩) _ _ => cellsAt H b o (n * size)
  | _ => none

/-- copy(d, x), x a slice or a string -/
def cpy (size : Nat) (d x : V) : M V := fun H => match d with
  | .slice none _ _ => match x with
    | .slice _ _ _ => some (i64 0, H)
    | .string _ => some (i64 0, H)
    | _ => none
  | .slice (some ⟨b, o, some _⟩) dlen _ =>
    match cpySrc H size (Nat.min (sliceLen x) dlen) x with
    | some l => match H.get b with
      | some (.cells true cs) =>
        if (l.all Value.isOne && l.length == Nat.min (sliceLen x) dlen * size && decide (o + Nat.min (sliceLen x) dlen * size ≤ cs.length)) = true then
          some (i64 (Nat.min (sliceLen x) dlen), H.set b (some (.cells true (splice cs o l)))) else none
      | _ => none
    | none => none
  | _ => none

/-! ### maps -/

/-- keys of which == can be told from their parts -/
inductive KK where
  | one (k : FK)
  | agg (ks : List FK)
def keyEq (kk : KK) (a b : V) : Option Bool := match kk with
  | .one k => eqK k a b
  | .agg ks => eqAgg ks a b

def findK (kk : KK) (k : V) : List (V × V) → Option (Option Nat)
  | [] => some none
  | e :: es => match keyEq kk k e.1 with
    | some true => some (some 0)
    | some false => (match findK kk k es with | some (some i) => some (some (i + 1)) | some none => some none | none => none)
    | none => none

/-- does a key have its type's shape? -/
def keyFits (kk : KK) (v : V) : Bool := match kk, v with
  | .one _, _ => true
  | .agg ks, .agg xs => xs.toList.length == ks.length
  | _, _ => false

def mkmap : M V := fun H => some (.map (some H.next), H.push (some (.map true [])))
def entries (H : Heap) (m : V) : Option (List (V × V)) := match m with
  | .map none => some []
  | .map (some b) => match H.get b with | some (.map _ es) => some es | _ => none
  | _ => none
def lookup (kk : KK) (zero : V) (ok : Bool) (m k : V) : M V := fun H => if (keyFits kk k && flatV zero) = true then (match entries H m with
  | some es => match findK kk k es with
    | some (some i) => match es[i]? with
      | some e => some (if ok then .tuple #[e.2, .bool true] else e.2, H)
      | none => none
    | some none => some (if ok then .tuple #[zero, .bool false] else zero, H)
    | none => none
  | none => none) else none
def mapSet (kk : KK) (m k v : V) : M V := fun H => if (keyFits kk k && k.isSolid && v.isSolid) = true then (match m with
  | .map (some b) => match H.get b with
    | some (.map true es) => match findK kk k es with
      | some (some i) => some (undef, H.set b (some (.map true (es.set i (k, v)))))
      | some none => some (undef, H.set b (some (.map true (es ++ [(k, v)]))))
      | none => none
    | _ => none
  | _ => none) else none
def mapDel (kk : KK) (m k : V) : M V := fun H => if keyFits kk k = true then (match m with
  | .map none => some (undef, H)
  | .map (some b) => match H.get b with
    | some (.map true es) => match findK kk k es with
      | some (some i) => some (undef, H.set b (some (.map true (es.eraseIdx i))))
      | some none => some (undef, H)
      | none => none
    | _ => none
  | _ => none) else none
def lenM (m : V) : M V := fun H => match entries H m with | some es => some (i64 es.length, H) | none => none

end Go.AM
