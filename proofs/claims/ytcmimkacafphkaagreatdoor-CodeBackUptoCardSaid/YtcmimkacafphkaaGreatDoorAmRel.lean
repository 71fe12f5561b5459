import Derived.Calls
import Derived.Below
import Derived.KernelRfl
set_option linter.all false
/- The abstract machine: a deterministic reading of the model's code over blocks with abstract numbers. -/
namespace Go.AM

abbrev V := Value

/-- the value of one cell -/
def _root_.Go.Value.isOne : Value → Bool
  | .agg _ | .tuple _ | .chan _ => false
  | _ => true

/-- A block: cells (may they be written?), a map, a string's iterator. An abstract slice bears, in its address's third part, the size of an element (0: it may not be appended to). -/
inductive Blk where
  | cells (rw : Bool) (cs : List V)
  | map (rw : Bool) (es : List (V × V))
  | siter (s : ByteArray) (pos : Nat)

/-- no mark for what is not known -/
def _root_.Go.Value.isSolid : Value → Bool
  | .tuple _ | .chan _ => false
  | _ => true

structure Heap where
  blk : List (Option Blk)

namespace Heap
def get (H : Heap) (b : Nat) : Option Blk := match H.blk[b]? with | some (some x) => some x | _ => none
def next (H : Heap) : Nat := H.blk.length
def set (H : Heap) (b : Nat) (x : Option Blk) : Heap := ⟨H.blk.set b x⟩
def push (H : Heap) (x : Option Blk) : Heap := ⟨H.blk ++ [x]⟩
def cell (H : Heap) (b o : Nat) : Option V := match H.get b with | some (.cells _ cs) => cs[o]? | _ => none
end Heap

def M (α : Type) := Heap → Option (α × Heap)
def ret {α : Type} (a : α) : M α := fun H => some (a, H)
def bnd {α β : Type} (m : M α) (k : α → M β) : M β := fun H => match m H with | some (a, H') => k a H' | none => none
def fail {α : Type} : M α := fun _ => none
def lift {α : Type} (o : Option α) : M α := fun H => match o with | some a => some (a, H) | none => none
/-- Go on only where a test holds. -/
def need (b : Bool) {α : Type} (m : M α) : M α := fun H => if b then m H else none

abbrev ptr (b o : Nat) : V := .pointer (some ⟨b, o, none⟩)
abbrev slc (b o u len cap : Nat) : V := .slice (some ⟨b, o, some u⟩) len cap
abbrev i64 (n : Int) : V := .int .i64 n

/-! ### values -/

def splice (cs : List V) (o : Nat) (l : List V) : List V := cs.take o ++ (l ++ cs.drop (o + l.length))

def fillA : List V → List (Nat × Nat × V) → Option (List V)
  | cs, [] => some cs
  | cs, (off, size, v) :: rest =>
    if (v.cells.toList.all Value.isOne && v.cells.size == size && decide (off + size ≤ cs.length)) = true then fillA (splice cs off v.cells.toList) rest else none

def pickV (c a b : V) : Option V := match c with | .bool true => some a | .bool false => some b | _ => none

def ibits (op : BinOp) (k : IntKind) (x y : Int) : Option V :=
  let a := BitVec.ofInt k.bits x
  let b := BitVec.ofInt k.bits y
  match op with
  | .and => some (.int k (k.wrap (a &&& b).toNat))
  | .or => some (.int k (k.wrap (a ||| b).toNat))
  | .xor => some (.int k (k.wrap (a ^^^ b).toNat))
  | .andNot => some (.int k (k.wrap (a &&& ~~~b).toNat))
  | _ => none

def ibin (op : BinOp) (k : IntKind) (x y : Int) : Option V :=
  match op with
  | .add => some (.int k (k.wrap (x + y)))
  | .sub => some (.int k (k.wrap (x - y)))
  | .mul => some (.int k (k.wrap (x * y)))
  | .quo => if y = 0 then none else some (.int k (k.wrap (x.tdiv y)))
  | .rem => if y = 0 then none else some (.int k (x.tmod y))
  | .eql => some (.bool (x == y))
  | .neq => some (.bool (x != y))
  | .lss => some (.bool (decide (x < y)))
  | .leq => some (.bool (decide (x ≤ y)))
  | .gtr => some (.bool (decide (x > y)))
  | .geq => some (.bool (decide (x ≥ y)))
  | op => ibits op k x y

def ishift (op : BinOp) (k : IntKind) (x y : Int) : Option V :=
  if y < 0 then none else
  match op with
  | .shl => some (.int k (k.wrap (x * 2 ^ (min y.toNat k.bits))))
  | .shr => some (.int k (x.fdiv (2 ^ (min y.toNat k.bits))))
  | _ => none

def sbin (op : BinOp) (x y : ByteArray) : Option V :=
  match op with
  | .add => if x.size + y.size ≤ 4611686018427387904 then some (.string (x ++ y)) else none
  | .eql => some (.bool (decide (x = y)))
  | .neq => some (.bool (!decide (x = y)))
  | .lss => some (.bool (Op.bytesLess x.toList y.toList))
  | .leq => some (.bool (Op.bytesLess x.toList y.toList || decide (x = y)))
  | .gtr => some (.bool (!(Op.bytesLess x.toList y.toList || decide (x = y))))
  | .geq => some (.bool (!Op.bytesLess x.toList y.toList))
  | _ => none

/-- numbers and strings -/
def bin (op : BinOp) (a b : V) : Option V :=
  match a, b with
  | .int k x, .int k' y =>
    match op with
    | .shl => ishift .shl k x y
    | .shr => ishift .shr k x y
    | op => if k = k' then ibin op k x y else none
  | .string x, .string y => sbin op x y
  | _, _ => none

def un (op : UnOp) (a : V) : Option V :=
  match op, a with
  | .neg, .int k n => some (.int k (k.wrap (0 - n)))
  | .xor, .int k n => ibits .xor k (if k.signed then -1 else k.max) n
  | .not, .bool b => some (.bool (!b))
  | _, _ => none

/-- the kinds of which == can be told at once -/
inductive FK where
  | b | i | s

def eqK : FK → V → V → Option Bool
  | .b, .bool a, .bool b => some (a == b)
  | .i, .int k a, .int k' b => if k = k' then some (a == b) else none
  | .s, .string a, .string b => some (decide (a = b))
  | _, _, _ => none

def eqKs : List FK → List V → List V → Option Bool
  | [], [], [] => some true
  | k :: ks, x :: xs, y :: ys => match eqK k x y with
    | some true => eqKs ks xs ys
    | some false => some false
    | none => none
  | _, _, _ => none

def eqAgg (ks : List FK) (a b : V) : Option Bool := match a, b with | .agg xs, .agg ys => eqKs ks xs.toList ys.toList | _, _ => none

/-- is it nil? (pointers, slices, maps, functions, interfaces) -/
inductive NK where
  | p | s | m | f | i

def isNil : NK → V → Option Bool
  | .p, .pointer a => some a.isNone
  | .s, .slice a _ _ => some a.isNone
  | .m, .map a => some a.isNone
  | .f, .nilFunc => some true
  | .f, .func _ _ _ => some false
  | .i, .nilIface => some true
  | .i, .iface _ _ => some false
  | _, _ => none

def notIf (neg : Bool) (o : Option Bool) : Option V := match o with | some b => some (.bool (if neg then !b else b)) | none => none

def cvi (k : IntKind) (a : V) : Option V := match a with | .int _ n => some (.int k (k.wrap n)) | _ => none

def fld1 (off : Nat) (a : V) : Option V := match a with | .agg cs => cs.toList[off]? | _ => none
def fldn (off n : Nat) (a : V) : Option V := match a with
  | .agg cs => if off + n ≤ cs.toList.length then some (.agg ((cs.toList.drop off).take n).toArray) else none
  | _ => none

def idxS (a i : V) : Option V := match a, i with
  | .string s, .int _ i => if 0 ≤ i then (match s[i.toNat]? with | some b => some (.int .u8 b.toNat) | none => none) else none
  | _, _ => none
def idxA1 (n : Nat) (a i : V) : Option V := match a, i with
  | .agg cs, .int _ i => if 0 ≤ i ∧ i < n then cs.toList[i.toNat]? else none
  | _, _ => none
def idxAn (n size : Nat) (a i : V) : Option V := match i with
  | .int _ i => if 0 ≤ i ∧ i < n then fldn (i.toNat * size) size a else none
  | _ => none

def faddr (off : Nat) (a : V) : Option V := match a with | .pointer (some ⟨b, o, none⟩) => some (ptr b (o + off)) | _ => none
def iaddrS (size : Nat) (a i : V) : Option V := match a, i with
  | .slice (some ⟨b, o, some _⟩) len _, .int _ i => if 0 ≤ i ∧ i < len then some (ptr b (o + i.toNat * size)) else none
  | _, _ => none
def iaddrA (n size : Nat) (a i : V) : Option V := match a, i with
  | .pointer (some ⟨b, o, none⟩), .int _ i => if 0 ≤ i ∧ i < n then some (ptr b (o + i.toNat * size)) else none
  | _, _ => none

/-- a bound that is given or not -/
def bound (d most : Nat) (x : Option V) : Option Nat := match x with
  | none => some d
  | some (.int _ i) => if 0 ≤ i ∧ i ≤ most then some i.toNat else none
  | some _ => none

/-- cap(s), where it is known: of nil -/
def capV : V → Option V
  | .slice none 0 0 => some (i64 0)
  | _ => none
def subS (a : V) (lo hi : Option V) : Option V := match a with
  | .string s => match bound s.size s.size hi with
    | some h => match bound 0 h lo with
      | some l => some (.string (s.extract l h))
      | none => none
    | none => none
  | _ => none

def cutAt (b o u l h m size : Nat) : V := if m = l then slc b o u (h - l) (m - l) else slc b (o + l * size) u (h - l) (m - l)

def subV (size : Nat) (a : V) (lo hi : Option V) : Option V := match a with
  | .slice x len cap =>
    match bound len cap hi with
    | some h => match bound 0 h lo with
      | some l => match x with
        | none => some (.slice none (h - l) (cap - l))
        | some ⟨b, o, some u⟩ => if u = size ∨ u = 0 then some (cutAt b o u l h cap size) else none
        | _ => none
      | none => none
    | none => none
  | _ => none

def subA (n size : Nat) (a : V) (lo hi : Option V) : Option V := match a with
  | .pointer (some ⟨b, o, none⟩) =>
    match bound n n hi with
    | some h => match bound 0 h lo with
      | some l => some (cutAt b o 0 l h n size)
      | none => none
    | none => none
  | _ => none

def ext (i : Nat) (a : V) : Option V := match a with | .tuple vs => vs.toList[i]? | _ => none

def nilck (a : V) : Option V := match a with
  | .pointer (some a) => some (.pointer (some a))
  | .func (.func f) x y => some (.func (.func f) x y)
  | _ => none

def minV (a b : V) : Option V := match a, b with | .int k x, .int _ y => some (.int k (if y < x then y else x)) | _, _ => none
def maxV (a b : V) : Option V := match a, b with | .int k x, .int _ y => some (.int k (if y > x then y else x)) | _, _ => none

/-- values that hold no address -/
def flatV : V → Bool
  | .bool _ | .int _ _ | .float _ _ | .complex _ _ _ | .string _ | .pointer none | .slice none 0 0 | .map none | .nilFunc | .nilIface => true
  | _ => false
/-! ### memory -/

def ld1 (p : V) : M V := fun H => match p with
  | .pointer (some ⟨b, o, none⟩) => match H.cell b o with | some v => some (v, H) | none => none
  | _ => none

def cellsAt (H : Heap) (b o n : Nat) : Option (List V) := match H.get b with
  | some (.cells _ cs) => if o + n ≤ cs.length then some ((cs.drop o).take n) else none
  | _ => none

def ldn (n : Nat) (p : V) : M V := fun H => match p with
  | .pointer (some ⟨b, o, none⟩) => match cellsAt H b o n with | some l => some (.agg l.toArray, H) | none => none
  | _ => none

def st1 (p v : V) : M V := fun H => match p with
  | .pointer (some ⟨b, o, none⟩) => match H.get b with
    | some (.cells true cs) => if (v.isOne && decide (o < cs.length)) = true then some (undef, H.set b (some (.cells true (cs.set o v)))) else none
    | _ => none
  | _ => none

def stn (n : Nat) (p v : V) : M V := fun H => match p, v with
  | .pointer (some ⟨b, o, none⟩), .agg vs => match H.get b with
    | some (.cells true cs) =>
      if (vs.toList.all Value.isOne && vs.toList.length == n && decide (o + n ≤ cs.length)) = true then some (undef, H.set b (some (.cells true (splice cs o vs.toList)))) else none
    | _ => none
  | _, _ => none

def newc (cs : List V) : M V := fun H => if cs.all flatV = true then some (ptr H.next 0, H.push (some (.cells true cs))) else none
def boxv (v : V) : M V := fun H => if v.cells.toList.all Value.isOne = true then some (ptr H.next 0, H.push (some (.cells true v.cells.toList))) else none
def build (zero : List V) (parts : List (Nat × Nat × V)) : Option V := if zero.all flatV = true then (match fillA zero parts with | some cs => some (.agg cs.toArray) | none => none) else none
def bslc (size len : Nat) (zero : List V) (parts : List (Nat × Nat × V)) : M V := fun H => if zero.all flatV = true then (match fillA zero parts with
  | some cs => some (slc H.next 0 size len len, H.push (some (.cells true cs)))
  | none => none) else none

def rep (n : Nat) (zero : List V) : List V := match n with | 0 => [] | n + 1 => zero ++ rep n zero

/-- make([]T, n, c) -/
def mkslc (size bytes : Nat) (zero : List V) (n c : V) : M V := fun H => match n, c with
  | .int _ n, .int _ c => if zero.all flatV = true ∧ 0 ≤ n ∧ n ≤ c ∧ c ≤ 140737488355328 ∧ bytes * c ≤ 140737488355328 then some (slc H.next 0 size n.toNat c.toNat, H.push (some (.cells true (rep c.toNat zero)))) else none
  | _, _ => none

def bytesV (s : ByteArray) : List V := s.data.toList.map fun b => .int .u8 b.toNat
def s2b (a : V) : M V := fun H => match a with
  | .string s => some (slc H.next 0 1 s.size s.size, H.push (some (.cells true (bytesV s))))
  | _ => none

def byteOf? : V → Option UInt8 | .int .u8 n => some (UInt8.ofNat n.toNat) | _ => none
def bytesOf? : List V → Option (List UInt8)
  | [] => some []
  | v :: vs => match byteOf? v with | some b => (match bytesOf? vs with | some l => some (b :: l) | none => none) | none => none

def b2s (a : V) : M V := fun H => match a with
  | .slice none _ _ => some (.string .empty, H)
  | .slice (some ⟨b, o, some _⟩) len _ => match cellsAt H b o len with
    | some l => match bytesOf? l with | some bs => some (.string ⟨bs.toArray⟩, H) | none => none
    | none => none
  | _ => none

/-- the cells of a slice -/
def cellsOfSlice (H : Heap) (size : Nat) (a : V) : Option (List V) := match a with
  | .slice none 0 _ => some []
  | .slice (some ⟨b, o, some _⟩) len _ => if len = 0 then some [] else cellsAt H b o (len * size)
  | _ => none

def sliceLen : V → Nat | .slice _ n _ => n | .string s => s.size | _ => 0

/-- the block that a slice lies over is given up (it must be the call's own) -/
def giveUp (H : Heap) (size : Nat) (a : V) : Option Heap := match a with
  | .slice none _ _ => some H
  | .slice (some ⟨b, _, some u⟩) _ _ => match H.get b with
    | some (.cells true _) => if u = size then some (H.set b none) else none
    | _ => none
  | _ => none

def appTo (size bytes : Nat) (s : V) (n : Nat) (new : Option (List V)) : M V := fun H =>
  match s with
  | .slice x len cap =>
    if n = 0 then some (.slice x len cap, H) else
    match new, cellsOfSlice H size s, giveUp H size s with
    | some new, some old, some H' =>
      if (len + n) * bytes ≤ 35184372088832 ∧ len + n ≤ 35184372088832 ∧ new.all Value.isOne = true ∧ new.length = n * size then some (slc H'.next 0 size (len + n) (len + n), H'.push (some (.cells true (old ++ new)))) else none
    | _, _, _ => none
  | _ => none

/-- append(s, x...), x a slice -/
def appV (size bytes : Nat) (s x : V) : M V := fun H => match x with
  | .slice a n c => appTo size bytes s n (cellsOfSlice H size (.slice a n c)) H
  | _ => none
/-- append(s, x...), x a string -/
def appS (s x : V) : M V := fun H => match x with
  | .string t => appTo 1 1 s t.size (some (bytesV t)) H
  | _ => none

/-- append(s, make([]T, n)...) -/
def appZ (size bytes : Nat) (zero : List V) (s x : V) : M V := fun H => match x with
  | .int _ n => if zero.all flatV = true ∧ 0 ≤ n ∧ n.toNat * bytes ≤ 35184372088832 ∧ n.toNat ≤ 35184372088832 then appTo size bytes s n.toNat (some (rep n.toNat zero)) H else none
  | _ => none

/-- what is copied -/
def cpySrc (H : Heap) (size n : Nat) (x : V) : Option (List V) := match x with
  | .string t => some ((bytesV t).take n)
  | .slice none _ _ => some []
  | .slice (some ⟨b, o, some _⟩) _ _ => cellsAt H b o (n * size)
  | _ => none

/-- copy(d, x), x a slice or a string -/
def cpy (size : Nat) (d x : V) : M V := fun H => match d with
  | .slice none _ _ => match x with
    | .slice _ _ _ => some (i64 0, H)
    | .string _ => some (i64 0, H)
    | _ => none
  | .slice (some ⟨b, o, some _⟩) dlen _ =>
    match cpySrc H size (Nat.min (sliceLen x) dlen) x with
    | some l => match H.get b with
      | some (.cells true cs) =>
        if (l.all Value.isOne && l.length == Nat.min (sliceLen x) dlen * size && decide (o + Nat.min (sliceLen x) dlen * size ≤ cs.length)) = true then
          some (i64 (Nat.min (sliceLen x) dlen), H.set b (some (.cells true (splice cs o l)))) else none
      | _ => none
    | none => none
  | _ => none

/-! ### maps -/

/-- keys of which == can be told from their parts -/
inductive KK where
  | one (k : FK)
  | agg (ks : List FK)
def keyEq (kk : KK) (a b : V) : Option Bool := match kk with
  | .one k => eqK k a b
  | .agg ks => eqAgg ks a b

def findK (kk : KK) (k : V) : List (V × V) → Option (Option Nat)
  | [] => some none
  | e :: es => match keyEq kk k e.1 with
    | some true => some (some 0)
    | some false => (match findK kk k es with | some (some i) => some (some (i + 1)) | some none => some none | none => none)
    | none => none

/-- does a key have its type's shape? -/
def keyFits (kk : KK) (v : V) : Bool := match kk, v with
  | .one _, _ => true
  | .agg ks, .agg xs => xs.toList.length == ks.length
  | _, _ => false

def mkmap : M V := fun H => some (.map (some H.next), H.push (some (.map true [])))
def entries (H : Heap) (m : V) : Option (List (V × V)) := match m with
  | .map none => some []
  | .map (some b) => match H.get b with | some (.map _ es) => some es | _ => none
  | _ => none
def lookup (kk : KK) (zero : V) (ok : Bool) (m k : V) : M V := fun H => if (keyFits kk k && flatV zero) = true then (match entries H m with
  | some es => match findK kk k es with
    | some (some i) => match es[i]? with
      | some e => some (if ok then .tuple #[e.2, .bool true] else e.2, H)
      | none => none
    | some none => some (if ok then .tuple #[zero, .bool false] else zero, H)
    | none => none
  | none => none) else none
def mapSet (kk : KK) (m k v : V) : M V := fun H => if (keyFits kk k && k.isSolid && v.isSolid) = true then (match m with
  | .map (some b) => match H.get b with
    | some (.map true es) => match findK kk k es with
      | some (some i) => some (undef, H.set b (some (.map true (es.set i (k, v)))))
      | some none => some (undef, H.set b (some (.map true (es ++ [(k, v)]))))
      | none => none
    | _ => none
  | _ => none) else none
def mapDel (kk : KK) (m k : V) : M V := fun H => if keyFits kk k = true then (match m with
  | .map none => some (undef, H)
  | .map (some b) => match H.get b with
    | some (.map true es) => match findK kk k es with
      | some (some i) => some (undef, H.set b (some (.map true (es.eraseIdx i))))
      | some none => some (undef, H)
      | none => none
    | _ => none
  | _ => none) else none
def lenM (m : V) : M V := fun H => match entries H m with | some es => some (i64 es.length, H) | none => none

end Go.AM

/- How abstract values and heaps stand to the model's: blocks are renamed, slices may have more room. -/
namespace Go.AM
open Go.RowKit (Below)

/-- The place of an abstract block: the real block, where in it the block begins, how many cells the real block has. -/
structure Loc where
  blk : Nat
  off : Nat
  size : Nat

abbrev Ren := Nat → Option Loc

/-- handles of types: a number for what stands in an interface -/
def tokV (n : Nat) : V := .iface (n / 1099511627776) (.agg #[.pointer (some ⟨n / 1048576 % 1048576, n % 1048576, none⟩)])

inductive VRel (ρ : Ren) : V → V → Prop where
  | undef (v : V) : VRel ρ (.tuple #[]) v
  | skip : VRel ρ (.chan none) (.tuple #[])
  | tok (n : Nat) : VRel ρ (.chan (some n)) (tokV n)
  | bool (b : Bool) : VRel ρ (.bool b) (.bool b)
  | int (k : IntKind) (n : Int) : VRel ρ (.int k n) (.int k n)
  | float (k : FloatKind) (n : Nat) : VRel ρ (.float k n) (.float k n)
  | complex (k : FloatKind) (a b : Nat) : VRel ρ (.complex k a b) (.complex k a b)
  | string (s : ByteArray) : VRel ρ (.string s) (.string s)
  | pnil : VRel ρ (.pointer none) (.pointer none)
  | ptr (b o : Nat) (L : Loc) (h : ρ b = some L) : VRel ρ (.pointer (some ⟨b, o, none⟩)) (.pointer (some ⟨L.blk, L.off + o, none⟩))
  | snil : VRel ρ (.slice none 0 0) (.slice none 0 0)
  | slc (b o u len cap : Nat) (L : Loc) (co ccap : Nat) (ca : Addr) (h : ρ b = some L) (ho : co = L.off + o ∨ cap = 0) (hl : len ≤ cap) (hc : cap ≤ ccap) (hs : u = 0 ∨ co + ccap * u ≤ L.size) (hca : ca = ⟨L.blk, co, none⟩ ∨ ccap = 0) :
      VRel ρ (.slice (some ⟨b, o, some u⟩) len cap) (.slice (some ca) len ccap)
  | mnil : VRel ρ (.map none) (.map none)
  | map (b : Nat) (L : Loc) (h : ρ b = some L) : VRel ρ (.map (some b)) (.map (some L.blk))
  | nilFunc : VRel ρ .nilFunc .nilFunc
  | nilIface : VRel ρ .nilIface .nilIface
  | func (fn : Fn) (x y x' y' : Array V) (hx : x.size = x'.size) (hy : y.size = y'.size) (h : ∀ i (h : i < x.size) (h' : i < x'.size), VRel ρ x[i] x'[i])
      (g : ∀ i (h : i < y.size) (h' : i < y'.size), VRel ρ y[i] y'[i]) : VRel ρ (.func fn x y) (.func fn x' y')
  | iface (t : TypeId) (v v' : V) (h : VRel ρ v v') : VRel ρ (.iface t v) (.iface t v')
  | agg (x x' : Array V) (hx : x.size = x'.size) (h : ∀ i (h : i < x.size) (h' : i < x'.size), VRel ρ x[i] x'[i]) : VRel ρ (.agg x) (.agg x')
  | tuple (x x' : Array V) (hx : x.size = x'.size) (h : ∀ i (h : i < x.size) (h' : i < x'.size), VRel ρ x[i] x'[i]) : VRel ρ (.tuple x) (.tuple x')

/-- lists, part by part -/
inductive LRel (ρ : Ren) : List V → List V → Prop where
  | nil : LRel ρ [] []
  | cons {x y : V} {xs ys : List V} : VRel ρ x y → LRel ρ xs ys → LRel ρ (x :: xs) (y :: ys)

def Ren.le (ρ ρ' : Ren) : Prop := ∀ b L, ρ b = some L → ρ' b = some L
theorem Ren.le.refl (ρ : Ren) : ρ.le ρ := fun _ _ h => h
theorem Ren.le.trans {a b c : Ren} (h : a.le b) (g : b.le c) : a.le c := fun x L e => g x L (h x L e)

theorem VRel.mono {ρ ρ' : Ren} (hle : ρ.le ρ') {v v' : V} (h : VRel ρ v v') : VRel ρ' v v' := by
  induction h with
  | undef v => exact .undef v
  | skip => exact .skip
  | tok n => exact .tok n
  | bool b => exact .bool b
  | int k n => exact .int k n
  | float k n => exact .float k n
  | complex k a b => exact .complex k a b
  | string s => exact .string s
  | pnil => exact .pnil
  | ptr b o L h => exact .ptr b o L (hle _ _ h)
  | snil => exact .snil
  | slc b o u len cap L co ccap ca h ho hl hc hs hca => exact .slc b o u len cap L co ccap ca (hle _ _ h) ho hl hc hs hca
  | mnil => exact .mnil
  | map b L h => exact .map b L (hle _ _ h)
  | nilFunc => exact .nilFunc
  | nilIface => exact .nilIface
  | func fn x y x' y' hx hy _ _ ih ig => exact .func fn x y x' y' hx hy ih ig
  | iface t v v' _ ih => exact .iface t v v' ih
  | agg x x' hx _ ih => exact .agg x x' hx ih
  | tuple x x' hx _ ih => exact .tuple x x' hx ih

theorem LRel.mono {ρ ρ' : Ren} (hle : ρ.le ρ') {l l' : List V} (h : LRel ρ l l') : LRel ρ' l l' := by
  induction h with
  | nil => exact .nil
  | cons h _ ih => exact .cons (h.mono hle) ih

theorem LRel.length {ρ : Ren} {l l' : List V} (h : LRel ρ l l') : l.length = l'.length := by
  induction h with
  | nil => rfl
  | cons _ _ ih => simp [ih]

theorem LRel.get {ρ : Ren} {l l' : List V} (h : LRel ρ l l') : ∀ (i : Nat) (v : V), l[i]? = some v → ∃ v', l'[i]? = some v' ∧ VRel ρ v v' := by
  induction h with
  | nil => intro i v h; simp at h
  | cons h _ ih =>
    intro i v hi
    cases i with
    | zero => simp at hi; subst hi; exact ⟨_, rfl, h⟩
    | succ i => exact ih i v (by simpa using hi)

theorem LRel.of_get {ρ : Ren} : ∀ {l l' : List V}, l.length = l'.length → (∀ i (h : i < l.length) (h' : i < l'.length), VRel ρ l[i] l'[i]) → LRel ρ l l'
  | [], [], _, _ => .nil
  | [], _ :: _, h, _ => by simp at h
  | _ :: _, [], h, _ => by simp at h
  | x :: xs, y :: ys, h, g => .cons (g 0 (by simp) (by simp)) (LRel.of_get (by simpa using h) fun i h h' => g (i + 1) (by simpa using h) (by simpa using h'))

theorem LRel.getElem {ρ : Ren} {l l' : List V} (h : LRel ρ l l') (i : Nat) (hi : i < l.length) (hi' : i < l'.length) : VRel ρ l[i] l'[i] := by
  obtain ⟨v', h1, h2⟩ := h.get i l[i] (by simp [hi])
  have : l'[i] = v' := by simpa [hi'] using h1
  rw [this]; exact h2

theorem LRel.append {ρ : Ren} {a a' b b' : List V} (h : LRel ρ a a') (g : LRel ρ b b') : LRel ρ (a ++ b) (a' ++ b') := by
  induction h with
  | nil => exact g
  | cons h _ ih => exact .cons h ih

theorem LRel.take {ρ : Ren} {l l' : List V} (h : LRel ρ l l') : ∀ n, LRel ρ (l.take n) (l'.take n) := by
  induction h with
  | nil => intro n; simp; exact .nil
  | cons h _ ih => intro n; cases n with
    | zero => simp; exact .nil
    | succ n => simp; exact .cons h (ih n)

theorem LRel.drop {ρ : Ren} {l l' : List V} (h : LRel ρ l l') : ∀ n, LRel ρ (l.drop n) (l'.drop n) := by
  induction h with
  | nil => intro n; simp; exact .nil
  | cons h g ih => intro n; cases n with
    | zero => simp; exact .cons h g
    | succ n => simp; exact ih n

theorem LRel.set {ρ : Ren} {l l' : List V} (h : LRel ρ l l') {v v' : V} (hv : VRel ρ v v') : ∀ n, LRel ρ (l.set n v) (l'.set n v') := by
  induction h with
  | nil => intro n; simp; exact .nil
  | cons h g ih => intro n; cases n with
    | zero => simp; exact .cons hv g
    | succ n => simp; exact .cons h (ih n)

theorem VRel.agg' {ρ : Ren} {x x' : Array V} (h : LRel ρ x.toList x'.toList) : VRel ρ (.agg x) (.agg x') :=
  .agg x x' (by simpa using h.length) fun i hi hi' => by have := h.getElem i (by simpa using hi) (by simpa using hi'); simpa using this
theorem VRel.tuple' {ρ : Ren} {x x' : Array V} (h : LRel ρ x.toList x'.toList) : VRel ρ (.tuple x) (.tuple x') :=
  .tuple x x' (by simpa using h.length) fun i hi hi' => by have := h.getElem i (by simpa using hi) (by simpa using hi'); simpa using this
theorem arel {ρ : Ren} {x x' : Array V} (hx : x.size = x'.size) (h : ∀ i (h : i < x.size) (h' : i < x'.size), VRel ρ x[i] x'[i]) : LRel ρ x.toList x'.toList :=
  .of_get (by simpa using hx) fun i hi hi' => by simpa using h i (by simpa using hi) (by simpa using hi')

/-- A value of one cell on the abstract side is one on the real side, of the same kind. -/
theorem VRel.isOne {ρ : Ren} {v v' : V} (h : VRel ρ v v') (h1 : v.isOne = true) : v'.isOne = true := by
  cases h <;> simp_all [Value.isOne]

theorem cells_one {v : V} (h : v.isOne = true) : v.cells = #[v] := by
  cases v <;> simp_all [Value.isOne, Value.cells]

/-- What a value lays into cells. -/
theorem VRel.cells {ρ : Ren} {v v' : V} (h : VRel ρ v v') (h1 : v.cells.toList.all Value.isOne = true) : LRel ρ v.cells.toList v'.cells.toList := by
  cases h <;> first
    | (simp [Value.cells, Value.isOne] at h1; done)
    | (simp only [Value.cells]; exact .cons (by constructor <;> assumption) .nil)
    | (simp only [Value.cells]; exact arel (by assumption) (by assumption))

/-- the stamps of a map's entries: each above those ahead of it, all below the clock -/
def Born (E : Array MapEntry) (clk : Nat) : Prop := E.toList.Pairwise (fun a b => a.born < b.born) ∧ ∀ e ∈ E.toList, e.born < clk
theorem born_nil (c : Nat) : Born #[] c := ⟨.nil, fun e he => by simp at he⟩

/-- Of a block: what stands in the real one. -/
def BRel (N : Nat) (ρ : Ren) (w : World) (L : Loc) : Blk → Prop
  | .cells rw cs => ∃ C e f, w.heap[L.blk]? = some (.cells C e f) ∧ C.size = L.size ∧
      ((rw = true → N ≤ L.blk ∧ ∀ i, i < C.size → ¬ (f.1 ≤ i ∧ i < f.2)) ∧ (rw = false → L.off + cs.length = C.size)) ∧ L.off + cs.length ≤ C.size ∧ LRel ρ cs ((C.toList.drop L.off).take cs.length)
  | .map rw es => L.off = 0 ∧ ∃ E clk, w.heap[L.blk]? = some (.map E clk) ∧ (rw = true → N ≤ L.blk ∧ Born E clk) ∧ LRel ρ (es.map (·.1)) (E.toList.map (·.key)) ∧ LRel ρ (es.map (·.2)) (E.toList.map (·.val))
  | .siter s pos => L.off = 0 ∧ N ≤ L.blk ∧ w.heap[L.blk]? = some (.stringIter s pos)

/-- The abstract heap H is what the real world w holds, by the renaming ρ. Below N the world is as w₀ was. -/
structure Rel (N : Nat) (w₀ : World) (ρ : Ren) (H : Heap) (w : World) : Prop where
  below : Below N w₀ w
  big : N ≤ w.heap.size
  dom : ∀ b, H.next ≤ b → ρ b = none
  base : ∀ b, b < N → ∃ s, ρ b = some ⟨b, 0, s⟩
  blk : ∀ b x, H.get b = some x → ∃ L, ρ b = some L ∧ BRel N ρ w L x
  inj : ∀ b b' x x' L L', H.get b = some x → H.get b' = some x' → b ≠ b' → ρ b = some L → ρ b' = some L' → L.blk ≠ L'.blk

/-- Between two worlds: what lies outside the blocks that the abstract heap has is as it was. -/
def Apart (ρ : Ren) (H : Heap) (w w' : World) : Prop :=
  w.heap.size ≤ w'.heap.size ∧ ∀ c, c < w.heap.size → (∀ b x L, H.get b = some x → ρ b = some L → L.blk ≠ c) → w'.heap[c]? = w.heap[c]?

theorem BRel.mono {N : Nat} {ρ ρ' : Ren} (hle : ρ.le ρ') {w w' : World} {L : Loc} {x : Blk} (hw : w'.heap[L.blk]? = w.heap[L.blk]?) (h : BRel N ρ w L x) : BRel N ρ' w' L x := by
  cases x with
  | cells rw cs =>
    obtain ⟨C, e, f, h1, h2, h4, h5, h6⟩ := h
    exact ⟨C, e, f, hw.trans h1, h2, h4, h5, h6.mono hle⟩
  | map rw es =>
    obtain ⟨h0, E, clk, h1, h2, h3, h4⟩ := h
    exact ⟨h0, E, clk, hw.trans h1, h2, h3.mono hle, h4.mono hle⟩
  | siter s pos =>
    obtain ⟨h0, h1, h2⟩ := h
    exact ⟨h0, h1, hw.trans h2⟩

theorem Heap.get_lt {H : Heap} {b : Nat} {x : Blk} (h : H.get b = some x) : b < H.next := by
  unfold Heap.get at h
  unfold Heap.next
  rcases Nat.lt_or_ge b H.blk.length with hl | hl
  · exact hl
  · rw [List.getElem?_eq_none hl] at h; simp at h

theorem Heap.get_push (H : Heap) (x : Option Blk) (b : Nat) : (H.push x).get b = if b = H.next then x else H.get b := by
  unfold Heap.push Heap.get Heap.next
  by_cases h : b = H.blk.length
  · subst h
    cases x <;> simp
  · rw [if_neg h]
    rcases Nat.lt_or_ge b H.blk.length with hl | hl
    · simp [List.getElem?_append_left hl]
    · have e1 : (H.blk ++ [x])[b]? = none := List.getElem?_eq_none (by simp; omega)
      have e2 : H.blk[b]? = none := List.getElem?_eq_none hl
      simp only [e1, e2]

theorem Heap.next_push (H : Heap) (x : Option Blk) : (H.push x).next = H.next + 1 := by simp [Heap.push, Heap.next]
theorem Heap.next_set (H : Heap) (b : Nat) (x : Option Blk) : (H.set b x).next = H.next := by simp [Heap.set, Heap.next]

theorem Heap.get_set (H : Heap) (b : Nat) (x : Option Blk) (c : Nat) (hb : b < H.next) : (H.set b x).get c = if c = b then x else H.get c := by
  unfold Heap.set Heap.get Heap.next at *
  by_cases h : c = b
  · subst h
    have : (H.blk.set c x)[c]? = some x := by simp [hb]
    simp only [this, if_true]
    cases x <;> rfl
  · rw [if_neg h]
    simp [List.getElem?_set_ne (fun e => h e.symm)]

def Ren.add (ρ : Ren) (b : Nat) (L : Loc) : Ren := fun c => if c = b then some L else ρ c

theorem Ren.le_add {ρ : Ren} {b : Nat} (L : Loc) (h : ρ b = none) : ρ.le (ρ.add b L) := by
  intro c K hc
  unfold Ren.add
  split
  · rename_i e; rw [e, h] at hc; cases hc
  · exact hc

section
variable {N : Nat} {w₀ : World} {ρ : Ren} {H : Heap} {w : World}

theorem Rel.lt (h : Rel N w₀ ρ H w) {b : Nat} {x : Blk} {L : Loc} (hb : H.get b = some x) (hL : ρ b = some L) : L.blk < w.heap.size := by
  obtain ⟨K, hK, hr⟩ := h.blk b x hb
  rw [hL] at hK; cases hK
  have key : ∀ o, w.heap[L.blk]? = some o → L.blk < w.heap.size := fun o ho => by
    rcases Nat.lt_or_ge L.blk w.heap.size with hl | hl
    · exact hl
    · simp [Array.getElem?_eq_none hl] at ho
  cases x with
  | cells rw cs => obtain ⟨C, e, f, h1, _⟩ := hr; exact key _ h1
  | map rw es => obtain ⟨_, E, clk, h1, _⟩ := hr; exact key _ h1
  | siter s pos => exact key _ hr.2.2

/-- A new block. -/
theorem Rel.alloc (h : Rel N w₀ ρ H w) (x : Blk) (o : Obj) (L : Loc) (hL : L.blk = w.heap.size)
    (hx : BRel N (ρ.add H.next L) { w with heap := w.heap.push o } L x) : Rel N w₀ (ρ.add H.next L) (H.push (some x)) { w with heap := w.heap.push o } := by
  have hno : ρ H.next = none := h.dom _ (Nat.le_refl _)
  have hle := Ren.le_add L hno
  have hold : ∀ k, k < w.heap.size → ({ w with heap := w.heap.push o } : World).heap[k]? = w.heap[k]? := fun k hk => by
    show (w.heap.push o)[k]? = _
    rw [Array.getElem?_push, if_neg (by omega)]
  refine ⟨?_, ?_, ?_, fun b hb => by obtain ⟨s, hs⟩ := h.base b hb; exact ⟨s, hle _ _ hs⟩, ?_, ?_⟩
  · exact h.below.trans ⟨rfl, rfl, rfl, by simp, fun k hk => hold k (Nat.lt_of_lt_of_le hk h.big)⟩
  · have := h.big; simp; omega
  · intro b hb
    rw [Heap.next_push] at hb
    unfold Ren.add
    rw [if_neg (by omega)]
    exact h.dom b (by omega)
  · intro b y hy
    rw [Heap.get_push] at hy
    split at hy
    · rename_i e
      cases hy; subst e
      exact ⟨L, by simp [Ren.add], hx⟩
    · rename_i e
      obtain ⟨K, hK, hr⟩ := h.blk b y hy
      exact ⟨K, hle _ _ hK, hr.mono hle (hold _ (h.lt hy hK))⟩
  · intro b b' y y' K K' hy hy' hne hK hK'
    rw [Heap.get_push] at hy hy'
    unfold Ren.add at hK hK'
    by_cases e : b = H.next
    · have e' : b' ≠ H.next := fun q => hne (e.trans q.symm)
      rw [if_pos e] at hy hK; rw [if_neg e'] at hy' hK'
      cases hK
      have := h.lt hy' hK'
      omega
    · by_cases e' : b' = H.next
      · rw [if_neg e] at hy hK; rw [if_pos e'] at hy' hK'
        cases hK'
        have := h.lt hy hK
        omega
      · rw [if_neg e] at hy hK; rw [if_neg e'] at hy' hK'
        exact h.inj b b' y y' K K' hy hy' hne hK hK'

/-- A block of the call's own turns: the abstract block b and the real one. -/
theorem Rel.put (h : Rel N w₀ ρ H w) {b : Nat} {x y : Blk} {L : Loc} (hb : H.get b = some x) (hL : ρ b = some L) (hN : N ≤ L.blk) (w' : World)
    (hos : w'.os = w.os) (htape : w'.tape = w.tape) (hout : w'.output = w.output) (hsz : w'.heap.size = w.heap.size)
    (hold : ∀ k, k ≠ L.blk → w'.heap[k]? = w.heap[k]?) (hy : BRel N ρ w' L y) : Rel N w₀ ρ (H.set b (some y)) w' := by
  have hlt := Heap.get_lt hb
  refine ⟨?_, ?_, ?_, h.base, ?_, ?_⟩
  · exact h.below.trans ⟨hos, htape, hout, by omega, fun k hk => hold k (by omega)⟩
  · rw [hsz]; exact h.big
  · intro c hc; rw [Heap.next_set] at hc; exact h.dom c hc
  · intro c z hz
    rw [Heap.get_set H b _ c hlt] at hz
    split at hz
    · rename_i e; cases hz; subst e; exact ⟨L, hL, hy⟩
    · rename_i e
      obtain ⟨K, hK, hr⟩ := h.blk c z hz
      exact ⟨K, hK, hr.mono (Ren.le.refl _) (hold _ (h.inj c b z x K L hz hb e hK hL))⟩
  · intro c c' z z' K K' hz hz' hne hK hK'
    rw [Heap.get_set H b _ _ hlt] at hz hz'
    have hz2 : ∃ q, H.get c = some q := by split at hz; · rename_i e; subst e; exact ⟨_, hb⟩
                                           · exact ⟨_, hz⟩
    have hz2' : ∃ q, H.get c' = some q := by split at hz'; · rename_i e; subst e; exact ⟨_, hb⟩
                                             · exact ⟨_, hz'⟩
    obtain ⟨q, hq⟩ := hz2; obtain ⟨q', hq'⟩ := hz2'
    exact h.inj c c' q q' K K' hq hq' hne hK hK'

/-- A block is given up. -/
theorem Rel.kill (h : Rel N w₀ ρ H w) {b : Nat} {x : Blk} (hb : H.get b = some x) : Rel N w₀ ρ (H.set b none) w := by
  have hlt := Heap.get_lt hb
  refine ⟨h.below, h.big, fun c hc => h.dom c (by rwa [Heap.next_set] at hc), h.base, fun c z hz => ?_, fun c c' z z' K K' hz hz' hne hK hK' => ?_⟩
  · rw [Heap.get_set H b _ c hlt] at hz
    split at hz
    · cases hz
    · exact h.blk c z hz
  · rw [Heap.get_set H b _ _ hlt] at hz hz'
    split at hz
    · cases hz
    · split at hz'
      · cases hz'
      · exact h.inj c c' z z' K K' hz hz' hne hK hK'

/-- A draw turns nothing. -/
theorem Rel.drew (h : Rel N w₀ ρ H w) (n : Nat) : Rel N w₀ ρ H { w with drawn := n } :=
  ⟨⟨h.below.os, h.below.tape, h.below.output, h.below.size, h.below.block⟩, h.big, h.dom, h.base, fun b x hb => by obtain ⟨L, hL, hr⟩ := h.blk b x hb; exact ⟨L, hL, hr.mono (Ren.le.refl _) rfl⟩, h.inj⟩

theorem Apart.refl (ρ : Ren) (H : Heap) (w : World) : Apart ρ H w w := ⟨Nat.le_refl _, fun _ _ _ => rfl⟩

end
end Go.AM
