import Derived.Test.YtcmimkacafphkaaGreatDoorAmRel
import Derived.Laws.Sem
import Derived.Laws.World
import Derived.Laws.Cells
import Derived.Laws.Slices
import Derived.Laws.AppendOwn
import Derived.Laws.StructEq
import Derived.Tactics
import Derived.WalkKit
set_option linter.all false
/- What code computes on the abstract machine. -/
namespace Go.AM
inductive TK where
  | one
  | agg (n : Nat)
def tk (P : Program) (t : TypeId) : Option TK :=
  match P.underlying t, P.info? t with
  | some (.struct _), some i => some (.agg i.size)
  | some (.array _ _), some i => some (.agg i.size)
  | some _, some i => if i.size = 1 then some .one else none
  | _, _ => none
def zhy (P : Program) (t : TypeId) : Option V := match P.info? t with | some i => i.zero | none => none
def zgi (P : Program) (t : TypeId) : Option Nat := match P.info? t with | some i => some i.size | none => none
def zne (P : Program) (t : TypeId) : Option Nat := match P.info? t with | some i => some i.bytes | none => none
def zw3 (P : Program) : List Field → Option (List (Nat × Nat))
  | [] => some []
  | f :: fs => match zgi P f.type, zw3 P fs with
    | some n, some l => some ((f.offset, n) :: l)
    | _, _ => none
def zv6 (pl : List (Nat × Nat)) (ρ : Operand → V) : List (Nat × Operand) → Option (List (Nat × Nat × V))
  | [] => some []
  | (i, x) :: rest => match pl[i]?, zv6 pl ρ rest with
    | some p, some l => some ((p.1, p.2, ρ x) :: l)
    | _, _ => none
def zme (size : Nat) (ρ : Operand → V) : List (Nat × Operand) → List (Nat × Nat × V)
  | [] => []
  | (i, x) :: rest => (i * size, size, ρ x) :: zme size ρ rest
def fkT (P : Program) (t : TypeId) : Option FK := match P.underlying t with
  | some .bool => some .b
  | some (.int _) => some .i
  | some .string => some .s
  | _ => none
def zt9 (P : Program) : Nat → List Field → Option (List FK)
  | _, [] => some []
  | n, f :: fs => match fkT P f.type, zt9 P (n + 1) fs with
    | some k, some ks => if (f.name != "_" && f.offset == n) = true then some (k :: ks) else none
    | _, _ => none
def zbbc (P : Program) (t : TypeId) : Option (List FK) := match P.underlying t with
  | some (.struct fs) => if (!P.stoodInHeld t && !P.eqGuardType P.depth t) = true then zt9 P 0 fs.toList else none
  | _ => none
def z3d (P : Program) (t : TypeId) : Option KK := match fkT P t with
  | some k => some (.one k)
  | none => match zbbc P t with | some ks => some (.agg ks) | none => none
def nkT (P : Program) (t : TypeId) : Option NK := match P.underlying t with
  | some (.pointer _) => some .p
  | some (.slice _) => some .s
  | some (.map _ _) => some .m
  | some (.func _ _ _) => some .f
  | some (.interface _) => some .i
  | _ => none
def zua (nk : NK) : Operand → Bool
  | .const v => match isNil nk v with | some true => true | _ => false
  | _ => false
def eqM (P : Program) (neg : Bool) (t : TypeId) (x y : Operand) (ρ : Operand → V) : Option V :=
  match P.underlying t with
  | some .bool => zhx neg (eqK .b (ρ x) (ρ y))
  | some (.int _) => zj (if neg then .neq else .eql) (ρ x) (ρ y)
  | some .string => zj (if neg then .neq else .eql) (ρ x) (ρ y)
  | some (.struct _) => match zbbc P t with | some ks => zhx neg (z3k ks (ρ x) (ρ y)) | none => none
  | _ => match nkT P t with
    | some nk => if zua nk y then zhx neg (isNil nk (ρ x)) else if zua nk x then zhx neg (isNil nk (ρ y)) else none
    | none => none
def optO (ρ : Operand → V) : Option Operand → Option V
  | none => none
  | some x => some (ρ x)
def zbfz (P : Program) (ρ : Operand → V) (b : Builtin) (args : List Operand) (ts : List TypeId) : Option V :=
  match b, args, ts with
  | .len, [x], [t] => match P.underlying t with
    | some .string => match ρ x with | .string s => some (i64 s.size) | _ => none
    | some (.slice _) => match ρ x with | .slice _ n _ => some (i64 n) | _ => none
    | some (.array n _) => some (i64 n)
    | _ => none
  | .cap, [x], [t] => match P.underlying t with
    | some (.slice _) => capV (ρ x)
    | _ => none
  | .min, [x, y], _ => minV (ρ x) (ρ y)
  | .max, [x, y], _ => maxV (ρ x) (ρ y)
  | _, _, _ => none
def zzc (P : Program) (ρ : Operand → V) : Op → Option V
  | .move x => some (ρ x)
  | .assign x => some (ρ x)
  | .pick c a b => zm (ρ c) (ρ a) (ρ b)
  | .build t parts => match P.underlying t, zhy P t with
    | some (.struct fs), some z => match zw3 P fs.toList with
      | some pl => match zv6 pl ρ parts.toList with
        | some l => build z.cells.toList l
        | none => none
      | none => none
    | some (.array _ e), some z => match zgi P e with
      | some n => build z.cells.toList (zme n ρ parts.toList)
      | none => none
    | _, _ => none
  | .nilCheck x => zeb (ρ x)
  | .binOp .eql t x y _ => eqM P false t x y ρ
  | .binOp .neq t x y _ => eqM P true t x y ρ
  | .binOp op _ x y _ => zj op (ρ x) (ρ y)
  | .unOp op _ x => un op (ρ x)
  | .convert src dst x => match P.underlying src, P.underlying dst with
    | some (.int _), some (.int k) => cvi k (ρ x)
    | some .string, some .string => match ρ x with | .string s => some (.string s) | _ => none
    | _, _ => none
  | .makeInterface t x => match P.underlying t with
    | some (.interface _) => none
    | some _ => some (.iface t (ρ x))
    | none => none
  | .makeFunc fn first captured => some (.func fn (first.map ρ) (captured.map ρ))
  | .slice t x lo hi none => match P.underlying t with
    | some .string => zo6 (ρ x) (optO ρ lo) (optO ρ hi)
    | some (.slice e) => match zgi P e with | some n => zt8 n (ρ x) (optO ρ lo) (optO ρ hi) | none => none
    | some (.array k e) => match zgi P e with | some n => subA k n (ρ x) (optO ρ lo) (optO ρ hi) | none => none
    | _ => none
  | .fieldAddr s x f => match P.underlying s with
    | some (.struct fs) => match fs[f]? with
      | some fd => match zgi P fd.type with | some (_ + 1) => zg fd.offset (ρ x) | _ => none
      | none => none
    | _ => none
  | .field t x f => match P.underlying t with
    | some (.struct fs) => match fs[f]? with
      | some fd => match tk P fd.type with | some .one => fld1 fd.offset (ρ x) | some (.agg n) => fldn fd.offset n (ρ x) | none => none
      | none => none
    | _ => none
  | .indexAddr t x i => match P.underlying t with
    | some (.slice e) => match zgi P e with | some n => zbo n (ρ x) (ρ i) | none => none
    | some (.array k e) => match zgi P e with | some n => zo5 k n (ρ x) (ρ i) | none => none
    | _ => none
  | .index t x i => match P.underlying t with
    | some .string => zh9 (ρ x) (ρ i)
    | some (.array k e) => match tk P e with | some .one => zbvw k (ρ x) (ρ i) | some (.agg n) => zbvx k n (ρ x) (ρ i) | none => none
    | _ => none
  | .extract t i => ext i (ρ t)
  | .call c => match c.callee with
    | .builtin b => zbfz P ρ b c.args.toList c.argTypes.toList
    | _ => none
  | _ => none
def zbf0 (P : Program) (ρ : Operand → V) (b : Builtin) (args : List Operand) (ts : List TypeId) : M V :=
  match b, args, ts with
  | .len, [x], [t] => match P.underlying t with
    | some (.map _ _) => lenM (ρ x)
    | _ => fail
  | _, _, _ => fail
def z9u (P : Program) (ρ : Operand → V) : Op → M V
  | .load t a => match tk P t with | some .one => z8 (ρ a) | some (.agg n) => ldn n (ρ a) | none => fail
  | .convert src dst x => match P.underlying src, P.underlying dst with
    | some (.slice e), some .string => match P.underlying e with | some (.int .u8) => b2s (ρ x) | _ => fail
    | _, _ => fail
  | .lookup t m k ok => match P.underlying t with
    | some (.map kt et) => match zhy P et, z3d P kt with | some z, some kk => lookup kk z ok (ρ m) (ρ k) | _, _ => fail
    | _ => fail
  | .call c => match c.callee with
    | .builtin b => zbf0 P ρ b c.args.toList c.argTypes.toList
    | _ => fail
  | _ => fail
def actB (P : Program) (ρ : Operand → V) (b : Builtin) (args : List Operand) (ts : List TypeId) : M V :=
  match b, args, ts with
  | .append, [s, x], [t, u] => match P.underlying t with
    | some (.slice e) => match zgi P e, zne P e, zhy P e with
      | some n, some by_, some z => if z.cells.size = n ∧ 0 < n ∧ 0 < by_ then
          (match P.underlying u with
          | some (.slice _) => zk7 n by_ (ρ s) (ρ x)
          | some .string => if n = 1 ∧ by_ = 1 then appS (ρ s) (ρ x) else fail
          | some (.int _) => appZ n by_ z.cells.toList (ρ s) (ρ x)
          | _ => fail) else fail
      | _, _, _ => fail
    | _ => fail
  | .copy, [d, x], [t, _] => match P.underlying t with
    | some (.slice e) => match zgi P e with | some n => cpy n (ρ d) (ρ x) | none => fail
    | _ => fail
  | .delete, [m, k], [t, _] => match P.underlying t with
    | some (.map kt _) => match z3d P kt with | some kk => zbl5 kk (ρ m) (ρ k) | none => fail
    | _ => fail
  | _, _, _ => fail
def actM (P : Program) (ρ : Operand → V) : Op → M V
  | .alloc e => match zhy P e with | some z => newc z.cells.toList | none => fail
  | .box _ x => zhp (ρ x)
  | .buildSlice t len parts => match P.underlying t with
    | some (.slice e) => match zgi P e, zhy P e with
      | some n, some z => if len * n ≤ 16777216 ∧ z.cells.size = n ∧ 0 < n then zfb n len (rep len z.cells.toList) (zme n ρ parts.toList) else fail
      | _, _ => fail
    | _ => fail
  | .store t a x => match tk P t with | some .one => st1 (ρ a) (ρ x) | some (.agg n) => stn n (ρ a) (ρ x) | none => fail
  | .convert src dst x => match P.underlying src, P.underlying dst with
    | some .string, some (.slice e) => match P.underlying e with | some (.int .u8) => s2b (ρ x) | _ => fail
    | _, _ => fail
  | .makeMap _ none => z9t
  | .makeMap t (some h) => match P.underlying t, ρ h with | some (.map _ _), .int _ _ => z9t | _, _ => fail
  | .makeSlice t l c => match P.underlying t with
    | some (.slice e) => match zgi P e, zne P e, zhy P e with
      | some n, some by_, some z => if z.cells.size = n ∧ 0 < n then zbbb n by_ z.cells.toList (ρ l) (ρ c) else fail
      | _, _, _ => fail
    | _ => fail
  | .mapUpdate t m k v => match P.underlying t with
    | some (.map kt _) => match z3d P kt with | some kk => z44 kk (ρ m) (ρ k) (ρ v) | none => fail
    | _ => fail
  | .insert t m k v => match P.underlying t with
    | some (.map kt _) => match z3d P kt with | some kk => z44 kk (ρ m) (ρ k) (ρ v) | none => fail
    | _ => fail
  | .call c => match c.callee with
    | .builtin b => actB P ρ b c.args.toList c.argTypes.toList
    | _ => fail
  | _ => fail
inductive Cls where
  | mv | pure | read | act | call
  deriving DecidableEq
def cls (P : Program) : Op → Cls
  | .move _ | .assign _ => .mv
  | .load _ _ | .lookup _ _ _ _ => .read
  | .convert src dst _ => match P.underlying src, P.underlying dst with
    | some (.slice _), some .string => .read
    | some .string, some (.slice _) => .act
    | _, _ => .pure
  | .alloc _ | .box _ _ | .buildSlice _ _ _ | .store _ _ _ | .makeMap _ _ | .makeSlice _ _ _ | .mapUpdate _ _ _ _ | .insert _ _ _ _ => .act
  | .call c => match c.callee with
    | .value _ => .call
    | .builtin .append => .act
    | .builtin .copy => .act
    | .builtin .delete => .act
    | .builtin .len => match c.argTypes.toList with
      | [t] => match P.underlying t with
        | some (.map _ _) => .read
        | _ => .pure
      | _ => .pure
    | _ => .pure
  | _ => .pure
abbrev Env := Nat → V
def Env.put (n : Nat) (e : Env) (d : Option Nat) (v : V) : Env := match d with
  | none => e
  | some d => bif Nat.blt d n then (fun i => bif Nat.beq i d then v else e i) else e
def evO (P : Program) (e : Env) : Operand → V
  | .tmp t => e t
  | .const v => bif zm7 v then v else undef
  | .global g => bif Nat.blt g P.globals.size then ptr g 0 else undef
  | .func f => .func (.func f) #[] #[]
abbrev zl := Nat → List V → M V
def zhz (σ : zl) (f : V) (args : List V) : M V := match f with
  | .func (.func g) x y => σ g (x.toList ++ (args ++ y.toList))
  | _ => fail
def z8d (P : Program) (e : Env) : List Operand → List V
  | [] => []
  | x :: xs => evO P e x :: z8d P e xs
def zss (P : Program) (σ : zl) (e : Env) (o : Op) : M V :=
  match cls P o with
  | .mv | .pure => za (zzc P (evO P e) o)
  | .read => z9u P (evO P e) o
  | .act => actM P (evO P e) o
  | .call => match o with
    | .call c => match c.callee with
      | .value f => zhz σ (evO P e f) (z8d P e c.args.toList)
      | _ => fail
    | _ => fail
abbrev zo8 : V := .chan none
def gd (g : V) (want : Bool) (m : M V) : M V := match g with
  | .bool b => if b == want then m else ret zo8
  | .tuple vs => if vs.isEmpty then fail else ret zo8
  | _ => ret zo8
def zdx (ops : Array Oper) (o : Oper) : Option (Option (Nat × Bool)) := match o.guard with
  | none => some none
  | some (j, want) => match ops[j]? with
    | some oj => match oj.dst with | some d => some (some (d, want)) | none => none
    | none => none
def gdM (P : Program) (σ : zl) (ops : Array Oper) (o : Oper) (e : Env) : M V := match zdx ops o with
  | none => fail
  | some none => zss P σ e o.op
  | some (some (d, want)) => gd (e d) want (zss P σ e o.op)
def zx6 (o : Oper) : Option Operand := match o.guard, o.op with
  | none, .move x => some x
  | none, .assign x => some x
  | _, _ => none
def z8e {R : Type} (P : Program) (σ : zl) (n : Nat) (ops : Array Oper) : List Oper → Env → (Env → M R) → M R
  | [], e, k => k e
  | o :: rest, e, k => match zx6 o with
    | some x => z8e P σ n ops rest (e.put n o.dst (evO P e x)) k
    | none => zb (gdM P σ ops o e) fun v => z8e P σ n ops rest (e.put n o.dst v) k
def zzd (id : Nat) (v : V) : V := match v with
  | .pointer (some ⟨_, o, s⟩) => .pointer (some ⟨id, o, s⟩)
  | .slice (some ⟨_, o, s⟩) l c => .slice (some ⟨id, o, s⟩) l c
  | .map (some _) => .map (some id)
  | v => v
def flt (id : Nat) (m : M V) : M V := fun H => match m ⟨[]⟩ with
  | some (v, ⟨[some x]⟩) => match H.get id with
    | none => bif Nat.blt id H.next then some (zzd id v, H.set id (some x)) else none
    | some _ => none
  | _ => none
def isMk (P : Program) : Op → Bool
  | .alloc _ | .box _ _ | .buildSlice _ _ _ | .makeSlice _ _ _ | .makeMap _ _ => true
  | .convert src dst x => match cls P (.convert src dst x) with | .act => true | _ => false
  | _ => false
inductive KD where
  | quiet | read | chain
  | float (j : Nat)
def zvj (l : List Nat) (i : Nat) : Option Nat := match l with
  | [] => none
  | x :: xs => bif Nat.beq x i then some 0 else match zvj xs i with | some j => some (j + 1) | none => none
def zew (P : Program) (fl : List Nat) (i : Nat) (o : Oper) : KD := match zvj fl i with
  | some j => .float j
  | none => match cls P o.op with
    | .mv | .pure => .quiet
    | .read => .read
    | .act | .call => .chain
structure Tr where
  i : Nat
  o : Oper
  kd : KD
  env : Env
  H : Heap
  v : V
  H' : Heap
def zbn0 (P : Program) (σ : zl) (ops : Array Oper) (base : Nat) (kd : KD) (o : Oper) (e : Env) : M V := match kd with
  | .float j => match o.guard with
    | none => bif isMk P o.op then flt (base + j) (actM P (evO P e) o.op) else fail
    | some _ => fail
  | _ => gdM P σ ops o e
def z5z (fl : List Nat) (base : Nat) : List Nat → List Nat
  | [] => []
  | i :: rest => match zvj fl i with | some j => (base + j) :: z5z fl base rest | none => z5z fl base rest
def zk8 (H : Heap) : List Nat → Bool
  | [] => true
  | b :: bs => (match H.get b with | none => Nat.blt b H.next | some _ => false) && zk8 H bs
def zub (kd : KD) (H H' : Heap) (l : List Nat) : Bool := match kd with
  | .chain => zk8 H l && zk8 H' l
  | _ => true
def runD {R : Type} (P : Program) (σ : zl) (n : Nat) (ops : Array Oper) (fl : List Nat) (base : Nat) : List Nat → Env → List Tr → (Env → List Tr → M R) → M R
  | [], e, tr, k => k e tr
  | i :: rest, e, tr, k => match ops[i]? with
    | none => fail
    | some o => match zx6 o, zew P fl i o with
      | some x, .quiet => fun H => runD P σ n ops fl base rest (e.put n o.dst (evO P e x)) (tr ++ [⟨i, o, .quiet, e, H, evO P e x, H⟩]) k H
      | _, kd => fun H => match zbn0 P σ ops base kd o e H with
        | some (v, H') => zmd (zub kd H H' (z5z fl base rest)) (runD P σ n ops fl base rest (e.put n o.dst v) (tr ++ [⟨i, o, kd, e, H, v, H'⟩]) k) H'
        | none => none
def KD.isChain : KD → Bool | .chain => true | _ => false
def KD.isRead : KD → Bool | .read => true | _ => false
def KD.isFloat : KD → Bool | .float _ => true | _ => false
def vEq : V → V → Bool
  | .bool a, .bool b => a == b
  | .int k a, .int k' b => decide (k = k') && a == b
  | .string a, .string b => decide (a = b)
  | .pointer a, .pointer b => decide (a = b)
  | .slice a l c, .slice b l' c' => decide (a = b) && l == l' && c == c'
  | .map a, .map b => decide (a = b)
  | .nilIface, .nilIface => true
  | .nilFunc, .nilFunc => true
  | .agg a, .agg b => vEqs a.toList b.toList
  | .tuple a, .tuple b => vEqs a.toList b.toList
  | .chan none, .chan none => true
  | _, _ => false
where
  vEq1 : V → V → Bool
  | .bool a, .bool b => a == b
  | .int k a, .int k' b => decide (k = k') && a == b
  | .string a, .string b => decide (a = b)
  | .pointer a, .pointer b => decide (a = b)
  | .slice a l c, .slice b l' c' => decide (a = b) && l == l' && c == c'
  | .map a, .map b => decide (a = b)
  | .nilIface, .nilIface => true
  | .nilFunc, .nilFunc => true
  | _, _ => false
  vEqs : List V → List V → Bool
  | [], [] => true
  | x :: xs, y :: ys => vEq1 x y && vEqs xs ys
  | _, _ => false
def chk (m : M V) (H : Heap) (v : V) : Bool := match m H with | some (v', _) => vEq v' v | none => false
def z50 (bf : Array Nat) (c i : Nat) : Bool := (bf.getD c 0).testBit i
def zvk (tr : List Tr) : List Nat := match tr with
  | [] => []
  | s :: rest => bif s.kd.isChain then s.i :: zvk rest else zvk rest
def z2v (tr : List Tr) : List Heap := match tr with
  | [] => []
  | s :: rest => bif s.kd.isChain then s.H' :: z2v rest else z2v rest
def zx7 (bf : Array Nat) (chain : List Nat) (i k : Nat) : Bool := (chain.take k).all (fun c => !z50 bf c i) && (chain.drop k).all (fun c => !z50 bf i c)
def z2w {R : Type} (P : Program) (σ : zl) (ops : Array Oper) (bf : Array Nat) (chain : List Nat) (s : Tr) (own : Nat) : Nat → List Heap → M R → M R
  | _, [], m => m
  | k, H :: Hs, m => bif (!Nat.beq k own && zx7 bf chain s.i k) then zmd (chk (gdM P σ ops s.o s.env) H s.v) (z2w P σ ops bf chain s own (k + 1) Hs m) else z2w P σ ops bf chain s own (k + 1) Hs m
def z8f {R : Type} (P : Program) (σ : zl) (ops : Array Oper) (bf : Array Nat) (chain : List Nat) (vers : List Heap) : Nat → List Tr → M R → M R
  | _, [], m => m
  | own, s :: rest, m =>
    bif s.kd.isChain then z8f P σ ops bf chain vers (own + 1) rest m else
    bif s.kd.isRead then z2w P σ ops bf chain s own 0 vers (z8f P σ ops bf chain vers own rest m) else z8f P σ ops bf chain vers own rest m
def zbbf (o : Oper) : List Nat := o.op.operands.toList.filterMap fun | .tmp t => some t | _ => none
def z9v (ops : Array Oper) (o : Oper) : List Nat := match zdx ops o with
  | some (some (d, _)) => d :: zbbf o
  | _ => zbbf o
def z52 (ops : Array Oper) (x y : Oper) : Bool :=
  (match x.dst with | some d => (z9v ops y).contains d || (match y.dst with | some e => Nat.beq d e | none => false) | none => false) ||
  (match y.dst with | some d => (z9v ops x).contains d | none => false)
def zbl6 (P : Program) (ops : Array Oper) (bf : Array Nat) (fl : List Nat) (i j : Nat) : Bool := match ops[i]?, ops[j]? with
  | some x, some y =>
    (!z52 ops x y || z50 bf j i) &&
    (match zew P fl i x, zew P fl j y with
     | .chain, .chain => z50 bf j i
     | .float _, .chain => z50 bf j i
     | _, _ => true)
  | _, _ => false
def z0a (P : Program) (ops : Array Oper) (fl : List Nat) : Bool → List Nat → Bool
  | _, [] => true
  | fresh, i :: rest => match ops[i]? with
    | none => false
    | some o => match zew P fl i o with
      | .chain => z0a P ops fl true rest
      | .float _ => z0a P ops fl false rest
      | .read => fresh && z0a P ops fl fresh rest
      | .quiet => z0a P ops fl fresh rest
def z54 (P : Program) (ops : Array Oper) (bf : Array Nat) (fl : List Nat) : List Nat → List Nat → Bool
  | _, [] => true
  | done, j :: rest => match ops[j]? with
    | none => false
    | some o => !done.contains j && o.after.toList.all (fun e => !Region.binds .any e || done.contains e.on) && (match o.op with | .select _ _ => false | _ => true) && done.all (fun i => zbl6 P ops bf fl i j) && z54 P ops bf fl (j :: done) rest
def zbri : List Nat → Bool
  | [] => true
  | x :: xs => !xs.contains x && zbri xs
def okD (P : Program) (ops : Array Oper) (perm fl : List Nat) : Bool :=
  P.follows .mixedOrders && (List.range ops.size).all (fun i => perm.contains i) && z54 P ops (Region.before ops) fl [] perm && z0a P ops fl true perm && zbri fl && fl.all (fun i => perm.contains i)
def zve (H : Heap) : Nat → Heap
  | 0 => H
  | m + 1 => zve (H.push none) m
def regD {R : Type} (P : Program) (σ : zl) (n : Nat) (ops : Array Oper) (perm fl : List Nat) (e : Env) (k : Env → M R) : M R := fun H =>
  bif okD P ops perm fl then
    runD P σ n ops fl H.next perm e [] (fun e' tr => z8f P σ ops (Region.before ops) (zvk tr) (zve H fl.length :: z2v tr) 0 tr (k e')) (zve H fl.length)
  else none
inductive Out where
  | nxt (vs : List V)
  | brk (id : Nat) (vs : List V)
  | ret (vs : List V)
def zuc (l : List Nat) (e : Env) : List V := match l with | [] => [] | x :: xs => e x :: zuc xs e
def zx8 (l : List Nat) (j : Nat) (vs : List V) (i : Nat) : V := match l with
  | [] => undef
  | x :: xs => bif Nat.beq i x then vs.getD j undef else zx8 xs (j + 1) vs i
def z0b (l : List Nat) (vs : List V) : Env := zx8 l 0 vs
def zcb : Nat := 1152921504606846976
def zcg : Nat → (List V → M Out) → List V → M Out
  | 0, _, _ => fail
  | n + 1, body, vs => zb (body vs) fun o => match o with
    | .nxt vs' => zcg n body vs'
    | o => ret o
def nx (o : Out) (k : List V → M Out) : M Out := match o with
  | .nxt vs => k vs
  | o => ret o
def zp (id : Nat) (o : Out) : Out := match o with
  | .brk id' vs => bif Nat.beq id' id then .nxt vs else .brk id' vs
  | o => o
def zi (c : V) (a b : M Out) : M Out := match c with
  | .bool true => a
  | .bool false => b
  | _ => fail
end Go.AM

/- Operations that read and write no memory: what the abstract machine says is what the model does. -/
namespace Go.AM
open Go.RowKit (Below)
variable {P : Program} {ρ : Ren}
theorem VRel.int_inv {k n v} (h : VRel ρ (.int k n) v) : v = .int k n := by cases h; rfl
theorem VRel.bool_inv {b v} (h : VRel ρ (.bool b) v) : v = .bool b := by cases h; rfl
theorem VRel.string_inv {s v} (h : VRel ρ (.string s) v) : v = .string s := by cases h; rfl
theorem VRel.agg_inv {x v} (h : VRel ρ (.agg x) v) : ∃ x', v = .agg x' ∧ LRel ρ x.toList x'.toList := by cases h; exact ⟨_, rfl, arel (by assumption) (by assumption)⟩
theorem VRel.ptr_inv {b o v} (h : VRel ρ (AM.ptr b o) v) : ∃ L, ρ b = some L ∧ v = .pointer (some ⟨L.blk, L.off + o, none⟩) := by cases h; exact ⟨_, by assumption, rfl⟩
theorem VRel.slc_inv {b o u len cap v} (h : VRel ρ (AM.slc b o u len cap) v) : ∃ L co ccap ca, ρ b = some L ∧ v = .slice (some ca) len ccap ∧ (co = L.off + o ∨ cap = 0) ∧ len ≤ cap ∧ cap ≤ ccap ∧ (u = 0 ∨ co + ccap * u ≤ L.size) ∧ (ca = ⟨L.blk, co, none⟩ ∨ ccap = 0) := by
  cases h; exact ⟨_, _, _, _, by assumption, rfl, by assumption, by assumption, by assumption, by assumption, by assumption⟩
theorem VRel.snil_inv {n c v} (h : VRel ρ (.slice none n c) v) : n = 0 ∧ c = 0 ∧ v = .slice none 0 0 := by cases h; exact ⟨rfl, rfl, rfl⟩
theorem zbl7 {c a b c' a' b' r : V} (hc : VRel ρ c c') (ha : VRel ρ a a') (hb : VRel ρ b b') (h : zm c a b = some r) :
    ∃ t, c' = .bool t ∧ VRel ρ r (if t then a' else b') := by
  unfold zm at h
  split at h
  · exact ⟨true, hc.bool_inv, by cases h; simpa using ha⟩
  · exact ⟨false, hc.bool_inv, by cases h; simpa using hb⟩
  · cases h
theorem zra (a b : ByteArray) : (a.toList == b.toList) = decide (a = b) := by
  rw [Bool.eq_iff_iff]; simp only [beq_iff_eq, decide_eq_true_eq, ByteArray.toList_eq]
  constructor
  · intro h
    obtain ⟨⟨x⟩⟩ := a; obtain ⟨⟨y⟩⟩ := b; simp at h; simp [h]
  · rintro rfl; rfl
theorem zbwp : (IntKind.i64.max : Int) = 9223372036854775807 := rfl
theorem z8g {op : BinOp} {a b r : V} (t : TypeId) (h : zj op a b = some r) (w : World) : (binOp op t a b).run P w = .ok r w := by
  unfold zj at h
  split at h
  · rename_i k x k' y
    split at h
    · unfold zz8 at h
      split at h
      · cases h
      · cases h; simp [binOp, Op.shift, *]
    · unfold zz8 at h
      split at h
      · cases h
      · cases h; simp [binOp, Op.shift, *]
    · rename_i h1 h2
      split at h
      · rename_i hk; subst hk
        unfold z3c at h
        cases op <;> simp_all [binOp, Op.intArith, Op.intDiv, Op.intBits, Op.intCmp, zbfy]
      · cases h
  · rename_i x y
    unfold sbin at h
    cases op <;> simp_all [binOp, Op.stringOp, zra]
    have := zbwp
    omega
  · cases h
theorem zbbg {op : BinOp} {a b r a' b' : V} (h : zj op a b = some r) (ha : VRel ρ a a') (hb : VRel ρ b b') : a' = a ∧ b' = b := by
  unfold zj at h
  split at h
  · exact ⟨ha.int_inv, hb.int_inv⟩
  · exact ⟨ha.string_inv, hb.string_inv⟩
  · cases h
theorem zbg4 {op : BinOp} {a b r : V} (h : zj op a b = some r) : VRel ρ r r := by
  unfold zj at h
  split at h
  · split at h
    · unfold zz8 at h; split at h <;> first | (cases h; constructor) | cases h
    · unfold zz8 at h; split at h <;> first | (cases h; constructor) | cases h
    · split at h
      · unfold z3c at h
        split at h <;> first | (cases h; constructor) | skip
        · split at h <;> first | (cases h; constructor) | cases h
        · split at h <;> first | (cases h; constructor) | cases h
        · unfold zbfy at h; dsimp only at h; split at h <;> first | (cases h; constructor) | cases h
      · cases h
  · unfold sbin at h
    split at h <;> first | (cases h; constructor) | skip
    · split at h <;> first | (cases h; constructor) | cases h
    · cases h
  · cases h
theorem zbjp {op : UnOp} {a a' r : V} (h : un op a = some r) (ha : VRel ρ a a') (w : World) : (Op.unary op a').run P w = .ok r w ∧ VRel ρ r r := by
  unfold un at h
  split at h
  · cases h; rw [ha.int_inv]; exact ⟨by simp [Op.unary, Op.intArith], .int _ _⟩
  · unfold zbfy at h; cases h; rw [ha.int_inv]; exact ⟨by simp [Op.unary, Op.intBits], .int _ _⟩
  · cases h; rw [ha.bool_inv]; exact ⟨by simp [Op.unary], .bool _⟩
  · cases h
theorem zbo7 {k : IntKind} {a a' r : V} (h : cvi k a = some r) (ha : VRel ρ a a') : ∃ j n, a' = .int j n ∧ r = .int k (k.wrap n) := by
  unfold cvi at h
  split at h
  · cases h; exact ⟨_, _, ha.int_inv, rfl⟩
  · cases h
theorem zw4 {k : FK} {a b a' b' : V} {r : Bool} (h : eqK k a b = some r) (ha : VRel ρ a a') (hb : VRel ρ b b') : a' = a ∧ b' = b := by
  unfold eqK at h
  split at h
  · exact ⟨ha.bool_inv, hb.bool_inv⟩
  · exact ⟨ha.int_inv, hb.int_inv⟩
  · exact ⟨ha.string_inv, hb.string_inv⟩
  · cases h
theorem zbvz {t : TypeId} (ht : fkT P t = some .b) : P.underlying t = some .bool := by
  unfold fkT at ht; split at ht <;> first | assumption | cases ht
theorem zbv0 {t : TypeId} (ht : fkT P t = some .i) : ∃ k, P.underlying t = some (.int k) := by
  unfold fkT at ht; split at ht <;> first | exact ⟨_, by assumption⟩ | cases ht
theorem zbv1 {t : TypeId} (ht : fkT P t = some .s) : P.underlying t = some .string := by
  unfold fkT at ht; split at ht <;> first | assumption | cases ht
theorem zbg5 {k : FK} {a b : V} {r : Bool} {t : TypeId} (ht : fkT P t = some k) (w : World) (d : Nat) (h : eqK k a b = some r) : (Op.equalIn (d + 1) t a b).run P w = .ok r w := by
  cases k
  · cases a <;> cases b <;> simp only [eqK] at h <;> first | (cases h; done) | skip
    cases h; rw [run_equalIn_bool' w d t _ _ (zbvz ht)]
  · cases a <;> cases b <;> simp only [eqK] at h <;> first | (cases h; done) | skip
    split at h
    · rename_i hk; subst hk; cases h; obtain ⟨k', hk'⟩ := zbv0 ht; rw [run_equalIn_int w d t _ _ _ _ hk']
    · cases h
  · cases a <;> cases b <;> simp only [eqK] at h <;> first | (cases h; done) | skip
    cases h; rw [run_equalIn_string w d t _ _ (zbv1 ht), zra]
theorem z8h {k : FK} {t : TypeId} (ht : fkT P t = some k) (w : World) : (isAgg t).run P w = .ok false w := by
  unfold fkT at ht
  split at ht <;> first | (rename_i hu; simp [isAgg, run_underlying hu]) | cases ht
theorem zbjq (w : World) (d : Nat) (A B : Array V) : ∀ (fs : List Field) (n : Nat) (ks : List FK) (xs ys : List V) (r : Bool), zt9 P n fs = some ks →
    LRel ρ xs (A.toList.drop n) → LRel ρ ys (B.toList.drop n) → zqq ks xs ys = some r → (Op.eqFields (d + 1) A B fs).run P w = .ok r w
  | [], n, ks, xs, ys, r, hf, hx, hy, h => by
    simp only [zt9] at hf; cases hf
    cases xs <;> cases ys <;> simp only [zqq] at h <;> first | (cases h; done) | skip
    cases h; rfl
  | f :: fs, n, ks, xs, ys, r, hf, hx, hy, h => by
    simp only [zt9] at hf
    split at hf
    · rename_i k ks' hk hks
      split at hf
      · rename_i hc
        cases hf
        simp only [Bool.and_eq_true, bne_iff_ne, ne_eq, beq_iff_eq] at hc
        obtain ⟨hnm, hoff⟩ := hc
        cases xs <;> cases ys <;> simp only [zqq] at h <;> first | (cases h; done) | skip
        · rename_i x xs1 y ys1
          generalize hA : A.toList.drop n = A1 at hx
          generalize hB : B.toList.drop n = B1 at hy
          cases hx with
          | cons hx1 hx2 =>
            cases hy with
            | cons hy1 hy2 =>
              rename_i a1 as1 b1 bs1
              have ha : A[n]? = some a1 := by have := congrArg List.head? hA; simpa using this
              have hb : B[n]? = some b1 := by have := congrArg List.head? hB; simpa using this
              have hA2 : A.toList.drop (n + 1) = as1 := by have := congrArg List.tail hA; simpa using this
              have hB2 : B.toList.drop (n + 1) = bs1 := by have := congrArg List.tail hB; simpa using this
              have hpa : (part f.type A f.offset).run P w = .ok a1 w := by simp [part, z8h hk w, hoff, ha]
              have hpb : (part f.type B f.offset).run P w = .ok b1 w := by simp [part, z8h hk w, hoff, hb]
              simp only [Op.eqFields, hnm, ne_eq, not_false_eq_true, if_true, Sem.run_bind, hpa, hpb, Result.andThen_ok]
              split at h
              · rename_i he
                obtain ⟨e1, e2⟩ := zw4 he hx1 hy1; subst e1; subst e2
                rw [zbg5 hk w d he]
                simp only [Result.andThen_ok]
                exact zbjq w d A B fs (n + 1) ks' xs1 ys1 r hks (by rw [hA2]; exact hx2) (by rw [hB2]; exact hy2) h
              · rename_i he
                cases h
                obtain ⟨e1, e2⟩ := zw4 he hx1 hy1; subst e1; subst e2
                rw [zbg5 hk w d he]
                simp
              · cases h
      · cases hf
    · cases hf
theorem z55 {t : TypeId} {ks : List FK} (h : zbbc P t = some ks) : ∃ fs, P.underlying t = some (.struct fs) ∧ P.stoodInHeld t = false ∧ P.eqGuardType P.depth t = false ∧ zt9 P 0 fs.toList = some ks := by
  unfold zbbc at h
  split at h
  · split at h
    · rename_i hc; simp only [Bool.and_eq_true, Bool.not_eq_true'] at hc; exact ⟨_, by assumption, hc.1, hc.2, h⟩
    · cases h
  · cases h
theorem z8i {t : TypeId} {ks : List FK} {a b a' b' : V} {r : Bool} (ht : zbbc P t = some ks) (h : z3k ks a b = some r) (ha : VRel ρ a a') (hb : VRel ρ b b') (w : World) (d : Nat) :
    ∃ A B, a' = .agg A ∧ b' = .agg B ∧ (Op.equalIn (d + 2) t a' b').run P w = .ok r w := by
  obtain ⟨fs, hu, h1, h2, h3⟩ := z55 ht
  unfold z3k at h
  split at h
  · obtain ⟨A, rfl, hA⟩ := ha.agg_inv
    obtain ⟨B, rfl, hB⟩ := hb.agg_inv
    refine ⟨A, B, rfl, rfl, ?_⟩
    have hfs : P.fieldsOf t = fs := by simp [Program.fieldsOf, hu]
    rw [run_equalIn_struct w (d + 1) t A B (by rw [hfs]; exact hu) h1, hfs]
    exact zbjq w d A B fs.toList 0 ks _ _ r h3 (by simpa using hA) (by simpa using hB) h
  · cases h
theorem zbjr {nk : NK} {a a' : V} {r : Bool} (h : isNil nk a = some r) (ha : VRel ρ a a') : isNil nk a' = some r := by
  cases nk <;> cases a <;> simp only [isNil] at h <;> first | (cases h; done) | (cases ha <;> simp_all [isNil])
theorem zbwq {t : TypeId} {nk : NK} (h : nkT P t = some nk) : match nk with
    | .p => ∃ e, P.underlying t = some (.pointer e)
    | .s => ∃ e, P.underlying t = some (.slice e)
    | .m => ∃ k e, P.underlying t = some (.map k e)
    | .f => ∃ x y z, P.underlying t = some (.func x y z)
    | .i => ∃ m, P.underlying t = some (.interface m) := by
  unfold nkT at h
  split at h <;> cases h <;> first | exact ⟨_, by assumption⟩ | exact ⟨_, _, by assumption⟩ | exact ⟨_, _, _, by assumption⟩
theorem zbo8 {t : TypeId} {nk : NK} (ht : nkT P t = some nk) {a z : V} {r : Bool} (h : isNil nk a = some r) (hz : isNil nk z = some true) (w : World) (n : Nat) :
    (Op.equalIn (n + 1) t a z).run P w = .ok r w ∧ (Op.equalIn (n + 1) t z a).run P w = .ok r w := by
  have hu := zbwq ht
  cases nk <;> cases a <;> simp only [isNil] at h <;> first | (cases h; done) | skip
  all_goals (cases z <;> simp only [isNil] at hz <;> first | (cases hz; done) | skip)
  · rename_i x y; obtain ⟨e, hu⟩ := hu; cases h; cases y <;> simp at hz
    cases x <;> simp [Op.equalIn, run_underlying hu]
  · rename_i x _ _ y _ _; obtain ⟨e, hu⟩ := hu; cases h; cases y <;> simp at hz
    cases x <;> simp [Op.equalIn, run_underlying hu]
  · rename_i x y; obtain ⟨k, e, hu⟩ := hu; cases h; cases y <;> simp at hz
    cases x <;> simp [Op.equalIn, run_underlying hu]
  all_goals (cases h)
  · obtain ⟨_, _, _, hu⟩ := hu; simp [Op.equalIn, run_underlying hu]
  · obtain ⟨_, _, _, hu⟩ := hu; simp [Op.equalIn, run_underlying hu]
  · obtain ⟨_, hu⟩ := hu; simp [Op.equalIn, run_underlying hu]
  · obtain ⟨_, hu⟩ := hu; simp [Op.equalIn, run_underlying hu]
theorem z56 {neg : Bool} {o : Option Bool} {r : V} (h : zhx neg o = some r) : ∃ b, o = some b ∧ r = .bool (if neg then !b else b) := by
  unfold zhx at h; split at h
  · cases h; exact ⟨_, rfl, rfl⟩
  · cases h
def eqOp (neg : Bool) : BinOp := if neg then .neq else .eql
theorem z2x {neg : Bool} {t : TypeId} {a b : V} {r : Bool} {w : World} (h : (Op.equalIn (9999 + 1) t a b).run P w = .ok r w)
    (hne : ∀ k x k' y, ¬ (a = .int k x ∧ b = .int k' y)) (hns : ∀ x y, ¬ (a = .string x ∧ b = .string y)) (hnf : ∀ k x k' y, ¬ (a = .float k x ∧ b = .float k' y))
    (hnc : ∀ k x y k' x' y', ¬ (a = .complex k x y ∧ b = .complex k' x' y')) : (binOp (eqOp neg) t a b).run P w = .ok (.bool (if neg then !r else r)) w := by
  have h' : (Op.equal t a b).run P w = .ok r w := h
  cases neg
  · show (binOp .eql t a b).run P w = _
    unfold binOp
    split <;> first | exact absurd ⟨rfl, rfl⟩ (hne _ _ _ _) | exact absurd ⟨rfl, rfl⟩ (hns _ _) | exact absurd ⟨rfl, rfl⟩ (hnf _ _ _ _) | exact absurd ⟨rfl, rfl⟩ (hnc _ _ _ _ _ _) | simp_all
  · show (binOp .neq t a b).run P w = _
    unfold binOp
    split <;> first | exact absurd ⟨rfl, rfl⟩ (hne _ _ _ _) | exact absurd ⟨rfl, rfl⟩ (hns _ _) | exact absurd ⟨rfl, rfl⟩ (hnf _ _ _ _) | exact absurd ⟨rfl, rfl⟩ (hnc _ _ _ _ _ _) | simp_all
theorem zx9 {op : BinOp} {t : TypeId} {x y : Operand} {a b : V} {w : World} (h1 : ∀ xs ys, ¬ (a = .agg xs ∧ b = .agg ys)) (h2 : ¬ (a = .nilIface ∧ b = .nilIface)) :
    (eqGuard op t x y a b).run P w = .ok () w := by
  cases a <;> cases b <;> first
    | exact absurd ⟨rfl, rfl⟩ h2
    | exact absurd ⟨rfl, rfl⟩ (h1 _ _)
    | (cases op <;> rfl)
theorem zbrj {k : FK} {a b : V} {r : Bool} (h : eqK k a b = some r) : (∃ x y, a = .bool x ∧ b = .bool y) ∨ (∃ k x k' y, a = .int k x ∧ b = .int k' y) ∨ (∃ x y, a = .string x ∧ b = .string y) := by
  cases k <;> cases a <;> cases b <;> simp only [eqK] at h <;> first | (cases h; done) | simp
theorem z45 {nk : NK} {a : V} {r : Bool} (h : isNil nk a = some r) : (∃ x, a = .pointer x) ∨ (∃ x n c, a = .slice x n c) ∨ (∃ x, a = .map x) ∨ a = .nilFunc ∨ (∃ f x y, a = .func f x y) ∨ a = .nilIface ∨ (∃ t v, a = .iface t v) := by
  cases nk <;> cases a <;> simp only [isNil] at h <;> first | (cases h; done) | simp
theorem z57 {neg : Bool} {t : TypeId} {x y : Operand} {e c : Operand → V} {r : V} (hr : ∀ z, VRel ρ (e z) (c z)) (hcn : ∀ v, c (.const v) = v)
    (h : eqM P neg t x y e = some r) (w : World) : ((do eqGuard (eqOp neg) t x y (c x) (c y); binOp (eqOp neg) t (c x) (c y)) : Sem Value).run P w = .ok r w ∧ VRel ρ r r := by
  unfold eqM at h
  split at h
  · rename_i hu
    obtain ⟨b, hb, rfl⟩ := z56 h
    obtain ⟨e1, e2⟩ := zw4 hb (hr x) (hr y)
    rw [e1, e2]
    have hf : fkT P t = some .b := by simp [fkT, hu]
    have := zbg5 hf w 9999 hb
    rcases zbrj hb with ⟨p, q, h1, h2⟩ | ⟨_, p, _, q, h1, h2⟩ | ⟨p, q, h1, h2⟩ <;> rw [h1, h2] at hb this ⊢ <;> simp only [eqK] at hb <;> first | (cases hb; done) | skip
    refine ⟨?_, .bool _⟩
    simp only [Sem.run_bind, zx9 (a := .bool p) (b := .bool q) (by simp) (by simp), Result.andThen_ok]
    exact z2x this (by simp) (by simp) (by simp) (by simp)
  · obtain ⟨e1, e2⟩ := zbbg h (hr x) (hr y)
    rw [e1, e2]
    refine ⟨?_, zbg4 h⟩
    have hk : (∃ k p k' q, e x = .int k p ∧ e y = .int k' q) ∨ (∃ p q, e x = .string p ∧ e y = .string q) := by
      unfold zj at h; split at h
      · rename_i h1 h2; exact .inl ⟨_, _, _, _, h1, h2⟩
      · rename_i h1 h2; exact .inr ⟨_, _, h1, h2⟩
      · cases h
    have hg : (eqGuard (eqOp neg) t x y (e x) (e y)).run P w = .ok () w := by
      rcases hk with ⟨_, _, _, _, h1, h2⟩ | ⟨_, _, h1, h2⟩ <;> rw [h1, h2] <;> exact zx9 (by simp) (by simp)
    simp only [Sem.run_bind, hg, Result.andThen_ok]
    exact z8g t h w
  · obtain ⟨e1, e2⟩ := zbbg h (hr x) (hr y)
    rw [e1, e2]
    refine ⟨?_, zbg4 h⟩
    have hk : (∃ k p k' q, e x = .int k p ∧ e y = .int k' q) ∨ (∃ p q, e x = .string p ∧ e y = .string q) := by
      unfold zj at h; split at h
      · rename_i h1 h2; exact .inl ⟨_, _, _, _, h1, h2⟩
      · rename_i h1 h2; exact .inr ⟨_, _, h1, h2⟩
      · cases h
    have hg : (eqGuard (eqOp neg) t x y (e x) (e y)).run P w = .ok () w := by
      rcases hk with ⟨_, _, _, _, h1, h2⟩ | ⟨_, _, h1, h2⟩ <;> rw [h1, h2] <;> exact zx9 (by simp) (by simp)
    simp only [Sem.run_bind, hg, Result.andThen_ok]
    exact z8g t h w
  · split at h
    · rename_i ks hks
      obtain ⟨b, hb, rfl⟩ := z56 h
      obtain ⟨A, B, hA, hB, hrun⟩ := z8i hks hb (hr x) (hr y) w 9998
      refine ⟨?_, .bool _⟩
      obtain ⟨fs, hu, h1, h2, h3⟩ := z55 hks
      rw [hA, hB] at hrun ⊢
      simp only [Sem.run_bind, run_eqGuard_agg w _ t x y A B h2, Result.andThen_ok]
      exact z2x hrun (by simp) (by simp) (by simp) (by simp)
    · cases h
  · split at h
    · rename_i nk hnk
      have key : ∀ (u v : Operand) (b : Bool), zua nk v = true → isNil nk (e u) = some b → isNil nk (c u) = some b ∧ isNil nk (c v) = some true ∧ (∃ z, v = .const z) := by
        intro u v b hv hb
        refine ⟨zbjr hb (hr u), ?_, ?_⟩
        · unfold zua at hv; split at hv
          · rw [hcn]; split at hv
            · assumption
            · cases hv
          · cases hv
        · unfold zua at hv; split at hv
          · exact ⟨_, rfl⟩
          · cases hv
      have fin : ∀ (b : Bool) (a z : V), isNil nk a = some b → isNil nk z = some true → (binOp (eqOp neg) t a z).run P w = .ok (.bool (if neg then !b else b)) w ∧ (binOp (eqOp neg) t z a).run P w = .ok (.bool (if neg then !b else b)) w := by
        intro b a z ha hz
        have h2 := zbo8 hnk ha hz w 9999
        have k1 := z45 ha; have k2 := z45 hz
        constructor
        · refine z2x h2.1 ?_ ?_ ?_ ?_ <;> (intros; rintro ⟨q1, q2⟩; subst q1; simp at k1)
        · refine z2x h2.2 ?_ ?_ ?_ ?_ <;> (intros; rintro ⟨q1, q2⟩; subst q2; simp at k1)
      have gfin : ∀ (a b : V) (ra rb : Bool), isNil nk a = some ra → isNil nk b = some rb → (∃ z, x = .const z) ∨ (∃ z, y = .const z) → (eqGuard (eqOp neg) t x y a b).run P w = .ok () w := by
        intro a b ra rb ha hb hc
        have k1 := z45 ha
        by_cases h2 : a = .nilIface ∧ b = .nilIface
        · obtain ⟨rfl, rfl⟩ := h2
          rcases hc with ⟨z, rfl⟩ | ⟨z, rfl⟩ <;> cases neg <;> simp [eqGuard, eqOp]
        · exact zx9 (by intro xs ys ⟨q1, _⟩; subst q1; simp at k1) h2
      split at h
      · rename_i hy
        obtain ⟨b, hb, rfl⟩ := z56 h
        obtain ⟨q1, q2, z, hz⟩ := key x y b hy hb
        refine ⟨?_, .bool _⟩
        simp only [Sem.run_bind, gfin _ _ _ _ q1 q2 (.inr ⟨z, hz⟩), Result.andThen_ok]
        exact (fin b _ _ q1 q2).1
      · split at h
        · rename_i hx
          obtain ⟨b, hb, rfl⟩ := z56 h
          obtain ⟨q1, q2, z, hz⟩ := key y x b hx hb
          refine ⟨?_, .bool _⟩
          simp only [Sem.run_bind, gfin _ _ _ _ q2 q1 (.inl ⟨z, hz⟩), Result.andThen_ok]
          exact (fin b _ _ q1 q2).2
        · cases h
    · cases h
end Go.AM

/- Operations that read and write no memory, together. -/
namespace Go.AM
open Go.RowKit (Below)
variable {P : Program} {ρ : Ren}
theorem zbbi {α : Type} [Inhabited α] (cs : List α) (o : Nat) (x : α) (l : List α) (h : o < cs.length) :
    (cs.set o x).take (o + 1) ++ (l ++ (cs.set o x).drop (o + 1 + l.length)) = cs.take o ++ (x :: l ++ cs.drop (o + (x :: l).length)) := by
  have h1 : (cs.set o x).take (o + 1) = cs.take o ++ [x] := by
    rw [List.take_add_one, List.take_set_of_le (Nat.le_refl _)]
    simp [h]
  have h2 : (cs.set o x).drop (o + 1 + l.length) = cs.drop (o + 1 + l.length) := List.drop_set_of_lt (by omega)
  rw [h1, h2]
  simp [Nat.add_assoc, Nat.add_comm 1]
theorem z58 (off : Nat) : ∀ (l : List V) (k : Nat) (cells : Array V), off + k + l.length ≤ cells.size →
    ((l.zipIdx k).foldl (fun cs (p : V × Nat) => cs.setIfInBounds (off + p.2) p.1) cells).toList = splice cells.toList (off + k) l
  | [], k, cells, h => by simp [splice]
  | x :: l, k, cells, h => by
    have h' : off + k + (l.length + 1) ≤ cells.size := by simpa using h
    simp only [List.zipIdx_cons, List.foldl_cons]
    rw [z58 off l (k + 1) _ (by simp; omega)]
    unfold splice
    have := zbbi cells.toList (off + k) x l (by simp; omega)
    rw [Array.toList_setIfInBounds, ← Nat.add_assoc]
    exact this
theorem zbeq (off : Nat) (v : Array V) (cells : Array V) (h : off + v.size ≤ cells.size) :
    (v.zipIdx.foldl (fun cs (p : V × Nat) => cs.setIfInBounds (off + p.2) p.1) cells).toList = splice cells.toList off v.toList := by
  have := z58 off v.toList 0 cells (by simpa using h)
  rw [← Array.foldl_toList, Array.toList_zipIdx]
  simpa using this
theorem LRel.splice {l l' m m' : List V} (h : LRel ρ l l') (g : LRel ρ m m') (o : Nat) : LRel ρ (splice l o m) (splice l' o m') := by
  unfold AM.splice
  rw [g.length]
  exact (h.take o).append (g.append (h.drop _))
theorem zv7 (l : List V) (o : Nat) (m : List V) (h : o + m.length ≤ l.length) : (splice l o m).length = l.length := by
  unfold splice; simp; omega
inductive PRel (ρ : Ren) (place : Nat → Option (Nat × Nat)) : List (Nat × V) → List (Nat × Nat × V) → Prop where
  | nil : PRel ρ place [] []
  | cons {i : Nat} {v u : V} {off size : Nat} {ps : List (Nat × V)} {qs : List (Nat × Nat × V)} : place i = some (off, size) → VRel ρ u v → PRel ρ place ps qs →
      PRel ρ place ((i, v) :: ps) ((off, size, u) :: qs)
theorem z47 (place : Nat → Option (Nat × Nat)) : ∀ {ps : List (Nat × V)} {qs : List (Nat × Nat × V)}, PRel ρ place ps qs → ∀ (cs : List V) (C : Array V) (r : List V),
    LRel ρ cs C.toList → zgt cs qs = some r → ∃ D, Instr.fill place C ps = some D ∧ LRel ρ r D.toList := by
  intro ps qs hp
  induction hp with
  | nil => intro cs C r hc h; simp only [zgt] at h; cases h; exact ⟨C, rfl, hc⟩
  | @cons i v u off size ps qs hpl hv _ ih =>
    intro cs C r hc h
    simp only [zgt] at h
    split at h
    · rename_i hcond
      simp only [Bool.and_eq_true, beq_iff_eq, decide_eq_true_eq] at hcond
      obtain ⟨⟨h1, h2⟩, h3⟩ := hcond
      have hcells := hv.cells h1
      have hl := hcells.length
      have hC := hc.length
      simp only [Array.length_toList] at hl hC
      simp only [Instr.fill, hpl]
      have hz : (decide (v.cells.size ≠ size) || decide (off + v.cells.size > C.size)) = false := by
        simp only [Bool.or_eq_false_iff, decide_eq_false_iff_not, ne_eq, Decidable.not_not]
        omega
      rw [if_neg (by rw [hz]; simp)]
      refine ih (splice cs off u.cells.toList) _ r ?_ h
      rw [zbeq off v.cells C (by omega)]
      exact hc.splice hcells off
    · cases h
theorem zbbj : ∀ (fs : List Field) (pl : List (Nat × Nat)), zw3 P fs = some pl → ∀ (w : World),
    (List.mapM (m := Sem) (fun f : Field => do pure (f.offset, ← sizeOf f.type)) fs).run P w = .ok pl w
  | [], pl, h, w => by simp only [zw3] at h; cases h; simp
  | f :: fs, pl, h, w => by
    simp only [zw3] at h
    split at h
    · rename_i n l hn hl
      cases h
      unfold zgi at hn
      split at hn
      · rename_i i hi
        cases hn
        have ih := zbbj fs l hl w
        simp only [List.mapM_cons, Sem.run_bind, sizeOf, typeInfo, run_program, Result.andThen_ok, hi, Sem.run_pure]
        have ih' : (List.mapM (m := Sem) (fun f : Field => do let x ← typeInfo f.type; pure (f.offset, x.size)) fs).run P w = .ok l w := by
          simpa [sizeOf] using ih
        simp only [sizeOf] at ih
        first
          | rw [ih]; simp
          | (simp [typeInfo] at ih ⊢; rw [ih]; simp)
      · cases hn
    · cases h
theorem zbf1 {x x' : Option V} {d most n : Nat} (h : zgu d most x = some n) (hx : (x = none ∧ x' = none) ∨ ∃ v v', x = some v ∧ x' = some v' ∧ VRel ρ v v') :
    (x' = none ∧ n = d) ∨ ∃ (k : IntKind) (i : Int), x' = some (.int k i) ∧ 0 ≤ i ∧ i ≤ most ∧ n = i.toNat := by
  unfold zgu at h
  rcases hx with ⟨rfl, rfl⟩ | ⟨v, v', rfl, rfl, hv⟩
  · cases h; exact .inl ⟨rfl, rfl⟩
  · split at h
    · rename_i q; cases q
    · rename_i q; cases q
      split at h
      · rename_i hi; cases h; exact .inr ⟨_, _, by rw [hv.int_inv], hi.1, hi.2, rfl⟩
      · cases h
    · cases h
theorem zrb {k : IntKind} {i : Int} {y : Nat} (code : BoundsCode) (w : World) (h0 : 0 ≤ i) (h1 : i ≤ y) : (Instr.sliceBound (.int k i) y code).run P w = .ok i.toNat w := by
  simp [Instr.sliceBound, asIntOf, h0, h1]
theorem zud {isSlice : Bool} {lo hi lo' hi' : Option V} {len cap ccap l h : Nat} (w : World) (hh : zgu len cap hi = some h) (hl : zgu 0 h lo = some l) (hc : cap ≤ ccap)
    (hlo : (lo = none ∧ lo' = none) ∨ ∃ v v', lo = some v ∧ lo' = some v' ∧ VRel ρ v v') (hhi : (hi = none ∧ hi' = none) ∨ ∃ v v', hi = some v ∧ hi' = some v' ∧ VRel ρ v v') :
    (Instr.sliceBounds isSlice len ccap lo' hi' none).run P w = .ok (l, h, ccap) w := by
  rcases zbf1 hh hhi with ⟨rfl, rfl⟩ | ⟨k, i, rfl, a1, a2, rfl⟩ <;> rcases zbf1 hl hlo with ⟨rfl, rfl⟩ | ⟨k', j, rfl, b1, b2, rfl⟩
  · simp [Instr.sliceBounds]
  · simp [Instr.sliceBounds, zrb _ w b1 b2]
  · simp [Instr.sliceBounds, zrb _ w a1 (show i ≤ (ccap : Int) by omega)]
  · simp [Instr.sliceBounds, zrb _ w a1 (show i ≤ (ccap : Int) by omega), zrb _ w b1 b2]
theorem zw5 {d most n : Nat} {x : Option V} (h : zgu d most x = some n) (hd : d ≤ most) : n ≤ most := by
  unfold zgu at h
  split at h
  · cases h; exact hd
  · split at h
    · cases h; omega
    · cases h
  · cases h
theorem zbf2 {b o u l h m size cm : Nat} {L : Loc} {co : Nat} (hL : ρ b = some L) (ho : co = L.off + o ∨ m = 0) (hu : u = size ∨ u = 0) (hlh : l ≤ h) (hhm : h ≤ m) (hm : m ≤ cm)
    (hs : u = 0 ∨ co + cm * u ≤ L.size) :
    VRel ρ (zw1 b o u l h m size) (.slice (if cm = l then some ⟨L.blk, co, none⟩ else (some ⟨L.blk, co, none⟩ : Option Addr).map (·.add (l * size))) (h - l) (cm - l)) := by
  have hadd : (⟨L.blk, co, none⟩ : Addr).add (l * size) = ⟨L.blk, co + l * size, none⟩ := by
    unfold Addr.add; split
    · simp_all
    · rfl
  have hmul : l ≤ cm → l * size + (cm - l) * size = cm * size := fun h => by rw [← Nat.add_mul]; congr 1; omega
  unfold zw1
  split
  · rename_i e; subst e
    have : h - m = 0 := by omega
    rw [this]
    split
    · rename_i q
      refine .slc b o u 0 (m - m) L co _ _ hL (.inr (by omega)) (by omega) (by omega) ?_ (.inl rfl)
      rcases hs with hs | hs
      · exact .inl hs
      · right; rw [q]; simp; omega
    · simp only [Option.map_some, hadd]
      refine .slc b o u 0 (m - m) L _ _ _ hL (.inr (by omega)) (by omega) (by omega) ?_ (.inl rfl)
      rcases hs with hs | hs
      · exact .inl hs
      · rcases hu with hu | hu
        · subst hu; right; have := hmul hm; omega
        · exact .inl hu
  · rename_i e
    have hlt : l < m := by omega
    rw [if_neg (by omega)]
    simp only [Option.map_some, hadd]
    refine .slc b _ u _ (m - l) L _ _ _ hL (.inl (by rcases ho with ho | ho <;> omega)) (by omega) (by omega) ?_ (.inl rfl)
    rcases hs with hs | hs
    · exact .inl hs
    · rcases hu with hu | hu
      · subst hu; right; have := hmul (by omega); omega
      · exact .inl hu
theorem zvl {e c : Operand → V} (hr : ∀ z, VRel ρ (e z) (c z)) (x : Option Operand) :
    (optO e x = none ∧ x.map c = none) ∨ ∃ v v', optO e x = some v ∧ x.map c = some v' ∧ VRel ρ v v' := by
  cases x with
  | none => exact .inl ⟨rfl, rfl⟩
  | some x => exact .inr ⟨_, _, rfl, rfl, hr x⟩
theorem zbbk {a a' r : V} {lo hi lo' hi' : Option V} {t : TypeId} (ht : P.underlying t = some .string) (ha : VRel ρ a a')
    (hlo : (lo = none ∧ lo' = none) ∨ ∃ v v', lo = some v ∧ lo' = some v' ∧ VRel ρ v v') (hhi : (hi = none ∧ hi' = none) ∨ ∃ v v', hi = some v ∧ hi' = some v' ∧ VRel ρ v v')
    (h : zo6 a lo hi = some r) (w : World) : (Instr.sliceAt t a' lo' hi' none).run P w = .ok r w ∧ VRel ρ r r := by
  unfold zo6 at h
  split at h
  · split at h
    · rename_i hh
      split at h
      · rename_i hl
        cases h
        rw [ha.string_inv]
        refine ⟨?_, .string _⟩
        simp [Instr.sliceAt, Instr.slice, run_underlying ht, zud (P := P) (isSlice := false) w hh hl (Nat.le_refl _) hlo hhi]
      · cases h
    · cases h
  · cases h
theorem zbl8 {a a' r : V} {lo hi lo' hi' : Option V} {t el : TypeId} {size : Nat} (ht : P.underlying t = some (.slice el)) (hsz : zgi P el = some size) (ha : VRel ρ a a')
    (hlo : (lo = none ∧ lo' = none) ∨ ∃ v v', lo = some v ∧ lo' = some v' ∧ VRel ρ v v') (hhi : (hi = none ∧ hi' = none) ∨ ∃ v v', hi = some v ∧ hi' = some v' ∧ VRel ρ v v')
    (h : zt8 size a lo hi = some r) : ∃ r', VRel ρ r r' ∧ ∀ w, (Instr.sliceAt t a' lo' hi' none).run P w = .ok r' w := by
  have hs : ∀ w, (sizeOf el).run P w = .ok size w := by
    intro w; unfold zgi at hsz; split at hsz
    · rename_i i hi; cases hsz; simp [sizeOf, typeInfo, hi]
    · cases hsz
  unfold zt8 at h
  split at h
  · rename_i x len cap
    split at h
    · rename_i hb hh
      split at h
      · rename_i l hl
        split at h
        · cases h
          cases ha
          have hhb : hb ≤ 0 := zw5 hh (Nat.le_refl _)
          have hlb : l ≤ hb := zw5 hl (Nat.zero_le _)
          have e1 : hb - l = 0 := by omega
          have e2 : 0 - l = 0 := by omega
          refine ⟨.slice none 0 0, by rw [e1, e2]; exact .snil, fun w => ?_⟩
          simp [Instr.sliceAt, Instr.slice, run_underlying ht, zud (P := P) (isSlice := true) w hh hl (Nat.le_refl _) hlo hhi, hs, e1]
        · split at h
          · rename_i hu
            cases h
            obtain ⟨L, co, ccap, ca, hL, rfl, ho, hlen, hcap, hs2, hca⟩ := ha.slc_inv
            have hhb : hb ≤ cap := zw5 hh hlen
            have hlb : l ≤ hb := zw5 hl (Nat.zero_le _)
            rcases hca with rfl | h0
            rotate_left
            · subst h0
              obtain rfl : cap = 0 := by omega
              obtain rfl : hb = 0 := by omega
              obtain rfl : l = 0 := by omega
              refine ⟨.slice (some ca) 0 0, ?_, fun w => ?_⟩
              · unfold zw1; rw [if_pos rfl]
                exact .slc _ _ _ 0 0 L co 0 ca hL (.inr rfl) (Nat.le_refl _) (Nat.le_refl _) (hs2.imp id fun q => by omega) (.inr rfl)
              · simp [Instr.sliceAt, Instr.slice, run_underlying ht, zud (P := P) (isSlice := true) w hh hl hcap hlo hhi, hs]
            refine ⟨_, zbf2 hL ho hu hlb hhb hcap hs2, fun w => ?_⟩
            simp [Instr.sliceAt, Instr.slice, run_underlying ht, zud (P := P) (isSlice := true) w hh hl hcap hlo hhi, hs]
          · cases h
        · cases h
      · cases h
    · cases h
  · cases h
theorem zbl9 {a a' r : V} {lo hi lo' hi' : Option V} {t el : TypeId} {n size : Nat} (ht : P.underlying t = some (.array n el)) (hsz : zgi P el = some size) (ha : VRel ρ a a')
    (hlo : (lo = none ∧ lo' = none) ∨ ∃ v v', lo = some v ∧ lo' = some v' ∧ VRel ρ v v') (hhi : (hi = none ∧ hi' = none) ∨ ∃ v v', hi = some v ∧ hi' = some v' ∧ VRel ρ v v')
    (h : subA n size a lo hi = some r) : ∃ r', VRel ρ r r' ∧ ∀ w, (Instr.sliceAt t a' lo' hi' none).run P w = .ok r' w := by
  have hs : ∀ w, (sizeOf el).run P w = .ok size w := by
    intro w; unfold zgi at hsz; split at hsz
    · rename_i i hi; cases hsz; simp [sizeOf, typeInfo, hi]
    · cases hsz
  unfold subA at h
  split at h
  · split at h
    · rename_i hb hh
      split at h
      · rename_i l hl
        cases h
        obtain ⟨L, hL, rfl⟩ := ha.ptr_inv
        have hhb : hb ≤ n := zw5 hh (Nat.le_refl _)
        have hlb : l ≤ hb := zw5 hl (Nat.zero_le _)
        refine ⟨_, zbf2 (size := size) (cm := n) hL (.inl rfl) (.inr rfl) hlb hhb (Nat.le_refl _) (.inl rfl), fun w => ?_⟩
        simp [Instr.sliceAt, Instr.sureAddr, run_underlying ht, zud (P := P) (isSlice := false) w hh hl (Nat.le_refl _) hlo hhi, hs]
        split <;> rfl
      · cases h
    · cases h
  · cases h
end Go.AM

/- Operations that read and write no memory: the theorem. -/
namespace Go.AM
open Go.RowKit (Below)
variable {P : Program} {ρ : Ren}
theorem zel {t : TypeId} {n : Nat} (h : zgi P t = some n) (w : World) : (sizeOf t).run P w = .ok n w := by
  unfold zgi at h; split at h
  · rename_i i hi; cases h; simp [sizeOf, typeInfo, hi]
  · cases h
theorem zmf {t : TypeId} {z : V} (h : zhy P t = some z) (w : World) : (zeroValue t).run P w = .ok z w := by
  unfold zhy at h; split at h
  · rename_i i hi; simp [zeroValue, typeInfo, hi, h]
  · cases h
theorem zue {t : TypeId} {n : Nat} (h : zne P t = some n) (w : World) : ∃ i, (typeInfo t).run P w = .ok i w ∧ i.bytes = n := by
  unfold zne at h; split at h
  · rename_i i hi; cases h; exact ⟨i, by simp [typeInfo, hi], rfl⟩
  · cases h
theorem zbg6 {t : TypeId} (h : tk P t = some .one) : (∀ w, (isAgg t).run P w = .ok false w) ∧ ∀ w, (sizeOf t).run P w = .ok 1 w := by
  unfold tk at h
  split at h
  · cases h
  · cases h
  · rename_i d i hn hm hu hi
    split at h
    · rename_i h1
      refine ⟨fun w => ?_, fun w => ?_⟩
      · simp only [isAgg, Sem.run_bind, run_underlying hu, Result.andThen_ok]
        cases d <;> first | rfl | exact absurd rfl (hn _) | exact absurd rfl (hm _ _)
      · simp [sizeOf, typeInfo, hi, h1]
    · cases h
  · cases h
theorem z0c {t : TypeId} {n : Nat} (h : tk P t = some (.agg n)) : (∀ w, (isAgg t).run P w = .ok true w) ∧ ∀ w, (sizeOf t).run P w = .ok n w := by
  unfold tk at h
  split at h
  · rename_i fs i hu hi; cases h
    exact ⟨fun w => by simp [isAgg, run_underlying hu], fun w => by simp [sizeOf, typeInfo, hi]⟩
  · rename_i fs i hu hi; cases h
    exact ⟨fun w => by simp [isAgg, run_underlying hu], fun w => by simp [sizeOf, typeInfo, hi]⟩
  · split at h <;> cases h
  · cases h
theorem z0d {α β : Type} (f : α → Sem β) (a : Array α) (l : List β) (w : World) (h : (a.toList.mapM f).run P w = .ok l w) : (a.mapM f).run P w = .ok l.toArray w := by
  rw [Array.mapM_eq_mapM_toList]
  simp [h]
theorem zbbl {pl : List (Nat × Nat)} {e c : Operand → V} (hr : ∀ z, VRel ρ (e z) (c z)) : ∀ (ps : List (Nat × Operand)) (qs : List (Nat × Nat × V)), zv6 pl e ps = some qs →
    PRel ρ (pl.toArray[·]?) (ps.map fun p => (p.1, c p.2)) qs
  | [], qs, h => by simp only [zv6] at h; cases h; exact .nil
  | (i, x) :: ps, qs, h => by
    simp only [zv6] at h
    split at h
    · rename_i p l hp hl; cases h
      exact .cons (by simpa using hp) (hr x) (zbbl hr ps l hl)
    · cases h
theorem z0e {size : Nat} {e c : Operand → V} (hr : ∀ z, VRel ρ (e z) (c z)) : ∀ (ps : List (Nat × Operand)),
    PRel ρ (fun i => some (i * size, size)) (ps.map fun p => (p.1, c p.2)) (zme size e ps)
  | [] => .nil
  | (_, x) :: ps => .cons rfl (hr x) (z0e hr ps)
theorem zqx {v : V} (h : zm7 v = true) : VRel ρ v v := by
  unfold zm7 at h; split at h <;> first | constructor | cases h
theorem z48 {z : V} (h : z.cells.toList.all zm7 = true) : LRel ρ z.cells.toList z.cells.toList := by
  generalize z.cells.toList = l at h
  induction l with
  | nil => exact .nil
  | cons x xs ih => simp only [List.all_cons, Bool.and_eq_true] at h; exact .cons (zqx h.1) (ih h.2)
theorem zbjs {t : TypeId} (ht : tk P t = some .one) {cs : Array V} {off : Nat} {v : V} (h : cs[off]? = some v) (w : World) : (part t cs off).run P w = .ok v w := by
  simp [part, (zbg6 ht).1 w, h]
theorem zbjt {t : TypeId} {n : Nat} (ht : tk P t = some (.agg n)) {cs : Array V} {off : Nat} (w : World) : (part t cs off).run P w = .ok (.agg (cs.extract off (off + n))) w := by
  simp [part, (z0c ht).1 w, (z0c ht).2 w]
theorem zbbm {off : Nat} {a a' r : V} (h : fld1 off a = some r) (ha : VRel ρ a a') : ∃ A v, a' = .agg A ∧ A[off]? = some v ∧ VRel ρ r v := by
  unfold fld1 at h; split at h
  · obtain ⟨A, rfl, hA⟩ := ha.agg_inv
    obtain ⟨v, h1, h2⟩ := hA.get off r h
    exact ⟨A, v, rfl, by simpa using h1, h2⟩
  · cases h
theorem zbbn {off n : Nat} {a a' r : V} (h : fldn off n a = some r) (ha : VRel ρ a a') : ∃ A, a' = .agg A ∧ VRel ρ r (.agg (A.extract off (off + n))) := by
  unfold fldn at h; split at h
  · split at h
    · obtain ⟨A, rfl, hA⟩ := ha.agg_inv
      cases h
      refine ⟨A, rfl, .agg' ?_⟩
      have : (A.extract off (off + n)).toList = (A.toList.drop off).take n := by
        rw [Array.toList_extract]; simp [List.extract]
      rw [this]
      simpa using (hA.drop off).take n
    · cases h
  · cases h
theorem zbju {e c : Operand → V} (hr : ∀ z, VRel ρ (e z) (c z)) (ty : TypeId) {b : Builtin} {args : Array Operand} {ts : Array TypeId} {r : V}
    (h : zbfz P e b args.toList ts.toList = some r) : ∃ r', VRel ρ r r' ∧ ∀ w k, (builtin b ts ty k (args.map c)).run P w = .ok (.value r') w := by
  obtain ⟨args⟩ := args
  obtain ⟨ts⟩ := ts
  simp only at h
  unfold zbfz at h
  split at h
  · rename_i x t
    have h1 := hr x
    split at h
    · rename_i hu
      split at h
      · rename_i s hx; rw [hx] at h1; cases h
        exact ⟨_, .int _ _, fun w k => by simp [builtin, Builtin.len_, run_underlying hu, h1.string_inv, goInt]⟩
      · cases h
    · rename_i el hu
      split at h
      · rename_i a n cap hx; rw [hx] at h1; cases h
        refine ⟨_, .int _ _, fun w k => ?_⟩
        have : ∃ a' cap', c x = .slice a' n cap' := by
          generalize c x = q at h1
          cases h1 <;> exact ⟨_, _, rfl⟩
        obtain ⟨a', cap', hc⟩ := this
        simp [builtin, Builtin.len_, run_underlying hu, hc, goInt]
      · cases h
    · rename_i n el hu
      cases h
      exact ⟨_, .int _ _, fun w k => by simp [builtin, Builtin.len_, run_underlying hu, goInt]⟩
    · cases h
  · rename_i x t
    have h1 := hr x
    split at h
    · rename_i el hu
      unfold capV at h
      split at h
      · rename_i hx; rw [hx] at h1; cases h
        refine ⟨_, .int _ _, fun w k => ?_⟩
        have hc : c x = .slice none 0 0 := by
          generalize c x = q at h1
          cases h1; rfl
        simp [builtin, Builtin.cap_, run_underlying hu, hc, goInt]
      · cases h
    · cases h
  · rename_i x y
    unfold minV at h
    split at h
    · rename_i k p k' q hx hy
      have h1 := hr x; rw [hx] at h1
      have h2 := hr y; rw [hy] at h2
      cases h
      exact ⟨_, .int _ _, fun w kk => by simp [builtin, Builtin.min_, Builtin.min2, h1.int_inv, h2.int_inv]⟩
    · cases h
  · rename_i x y
    unfold maxV at h
    split at h
    · rename_i k p k' q hx hy
      have h1 := hr x; rw [hx] at h1
      have h2 := hr y; rw [hy] at h2
      cases h
      exact ⟨_, .int _ _, fun w kk => by simp [builtin, Builtin.max_, Builtin.max2, h1.int_inv, h2.int_inv]⟩
    · cases h
  · cases h
set_option maxHeartbeats 1000000 in
theorem zbbo {e c : Operand → V} (hr : ∀ z, VRel ρ (e z) (c z)) (hcn : ∀ v, c (.const v) = v) (o : Oper) {r : V} (h : zzc P e o.op = some r) :
    ∃ r', VRel ρ r r' ∧ ∀ w, (execOp c o).run P w = .ok (.value r') w := by
  obtain ⟨dst, op, ty, pos, after, guard⟩ := o
  simp only at h
  unfold zzc at h
  split at h
  · cases h; exact ⟨_, hr _, fun w => by simp [execOp]⟩
  · cases h; exact ⟨_, hr _, fun w => by simp [execOp]⟩
  · obtain ⟨t, ht, hv⟩ := zbl7 (hr _) (hr _) (hr _) h
    exact ⟨_, hv, fun w => by simp [execOp, ht, asBool]⟩
  · -- build
    rename_i t parts
    split at h
    · rename_i fs z hu hz
      split at h
      · rename_i pl hpl
        split at h
        · rename_i l hl
          unfold AM.build at h
          split at h
          · rename_i hfa
            split at h
            · rename_i cs hcs
              cases h
              obtain ⟨D, hD, hrel⟩ := z47 _ (zbbl hr parts.toList l hl) _ z.cells cs (z48 hfa) hcs
              refine ⟨.agg D, .agg' (by simpa using hrel), fun w => ?_⟩
              have hm := z0d (P := P) (fun f : Field => (do pure (f.offset, ← sizeOf f.type) : Sem (Nat × Nat))) fs pl w (zbbj fs.toList pl hpl w)
              simp only [execOp, Instr.build, Sem.run_bind, zmf hz w, Result.andThen_ok, run_underlying hu, hm]
              have hD' : Instr.fill (fun x => pl.toArray[x]?) z.cells (parts.map fun p => (p.1, c p.2)).toList = some D := by simpa using hD
              simp only [hD']
              simp
            · cases h
          · cases h
        · cases h
      · cases h
    · rename_i k el z hu hz
      split at h
      · rename_i n hn
        unfold AM.build at h
        split at h
        · rename_i hfa
          split at h
          · rename_i cs hcs
            cases h
            obtain ⟨D, hD, hrel⟩ := z47 _ (z0e (size := n) hr parts.toList) _ z.cells cs (z48 hfa) hcs
            refine ⟨.agg D, .agg' (by simpa using hrel), fun w => ?_⟩
            simp only [execOp, Instr.build, Sem.run_bind, zmf hz w, Result.andThen_ok, run_underlying hu, zel hn w]
            have hD' : Instr.fill (fun i => some (i * n, n)) z.cells (parts.map fun p => (p.1, c p.2)).toList = some D := by simpa using hD
            simp only [hD']
            simp
          · cases h
        · cases h
      · cases h
    · cases h
  · -- nilCheck
    rename_i x
    have hx := hr x
    unfold zeb at h
    split at h
    · rename_i a q
      cases h
      rw [q] at hx
      refine ⟨c x, hx, fun w => ?_⟩
      simp only [execOp]
      generalize c x = y at hx
      cases hx; rfl
    · rename_i f a b q
      cases h
      rw [q] at hx
      refine ⟨c x, hx, fun w => ?_⟩
      simp only [execOp]
      generalize c x = y at hx
      cases hx; rfl
    · cases h
  · obtain ⟨h1, h2⟩ := z57 (neg := false) hr hcn h default
    exact ⟨r, h2, fun w => by
      have := (z57 (neg := false) hr hcn h w).1
      simp only [execOp]
      rw [Sem.run_bind]
      have e1 : (eqOp false) = BinOp.eql := rfl
      rw [e1] at this; rw [this]; rfl⟩
  · obtain ⟨h1, h2⟩ := z57 (neg := true) hr hcn h default
    exact ⟨r, h2, fun w => by
      have := (z57 (neg := true) hr hcn h w).1
      simp only [execOp]
      rw [Sem.run_bind]
      have e1 : (eqOp true) = BinOp.neq := rfl
      rw [e1] at this; rw [this]; rfl⟩
  · -- other binary operations
    rename_i op t x y yt hn1 hn2
    obtain ⟨e1, e2⟩ := zbbg h (hr x) (hr y)
    refine ⟨r, zbg4 h, fun w => ?_⟩
    have hg : (eqGuard op t x y (e x) (e y)).run P w = .ok () w := by cases op <;> first | rfl | exact absurd rfl hn1 | exact absurd rfl hn2
    simp only [execOp, Sem.run_bind, e1, e2, hg, Result.andThen_ok, z8g t h w, Sem.run_pure]
  · rename_i op t x
    refine ⟨r, (zbjp (P := P) h (hr x) (default : World)).2 , fun w => by simp [execOp, (zbjp (P := P) h (hr x) w).1]⟩
  · -- conversions
    rename_i src dst x
    split at h
    · rename_i k1 k2 hs hd
      obtain ⟨j, n, hc, rfl⟩ := zbo7 h (hr x)
      exact ⟨_, .int _ _, fun w => by simp [execOp, convert, run_underlying hs, run_underlying hd, hc, Conv.intToInt]⟩
    · rename_i hs hd
      split at h
      · rename_i s hq
        cases h
        have := hr x; rw [hq] at this
        exact ⟨_, .string s, fun w => by simp [execOp, convert, run_underlying hs, run_underlying hd, this.string_inv]⟩
      · cases h
    · cases h
  · -- interfaces
    rename_i t x
    split at h
    · cases h
    · rename_i d hni hu
      cases h
      refine ⟨.iface t (c x), .iface t _ _ (hr x), fun w => ?_⟩
      simp only [execOp, Instr.makeInterface, Sem.run_bind, run_underlying hu, Result.andThen_ok]
      cases d <;> first | rfl | exact absurd rfl (hni _)
    · cases h
  · -- functions
    rename_i fn first captured
    cases h
    exact ⟨.func fn (first.map c) (captured.map c), .func _ _ _ _ _ (by simp) (by simp) (fun i h1 h2 => by simpa using hr _) (fun i h1 h2 => by simpa using hr _),
      fun w => by simp [execOp, Instr.makeFunc]⟩
  · -- slices
    rename_i t x lo hi
    split at h
    · rename_i hu
      refine ⟨r, (zbbk (P := P) hu (hr x) (zvl hr lo) (zvl hr hi) h default).2, fun w => ?_⟩
      simp [execOp, (zbbk (P := P) hu (hr x) (zvl hr lo) (zvl hr hi) h w).1]
    · rename_i el hu
      split at h
      · rename_i n hn
        obtain ⟨r', h1, h2⟩ := zbl8 hu hn (hr x) (zvl hr lo) (zvl hr hi) h
        exact ⟨r', h1, fun w => by simp [execOp, h2 w]⟩
      · cases h
    · rename_i k el hu
      split at h
      · rename_i n hn
        obtain ⟨r', h1, h2⟩ := zbl9 hu hn (hr x) (zvl hr lo) (zvl hr hi) h
        exact ⟨r', h1, fun w => by simp [execOp, h2 w]⟩
      · cases h
    · cases h
  · -- a field's address
    rename_i s x f
    split at h
    · rename_i fs hu
      split at h
      · rename_i fd hfd
        split at h
        · rename_i n hn
          unfold zg at h
          split at h
          · rename_i b o hq
            cases h
            have := hr x; rw [hq] at this
            obtain ⟨L, hL, hc⟩ := this.ptr_inv
            refine ⟨_, .ptr b (o + fd.offset) L hL, fun w => ?_⟩
            simp only [execOp, Instr.fieldAt, Sem.run_bind, run_underlying hu, Result.andThen_ok, hfd, hc, Instr.sureAddr, Sem.run_pure, fieldPlace, zel hn w]
            simp [Addr.add]
            split <;> simp_all
          · cases h
        · cases h
      · cases h
    · cases h
  · -- a field
    rename_i t x f
    split at h
    · rename_i fs hu
      split at h
      · rename_i fd hfd
        split at h
        · rename_i hk
          obtain ⟨A, v, hA, hv, hrel⟩ := zbbm h (hr x)
          exact ⟨v, hrel, fun w => by simp [execOp, Instr.field, run_underlying hu, hfd, hA, asAgg, zbjs hk hv w]⟩
        · rename_i n hk
          obtain ⟨A, hA, hrel⟩ := zbbn h (hr x)
          exact ⟨_, hrel, fun w => by simp [execOp, Instr.field, run_underlying hu, hfd, hA, asAgg, zbjt hk w]⟩
        · cases h
      · cases h
    · cases h
  · -- an element's address
    rename_i t x i
    split at h
    · rename_i el hu
      split at h
      · rename_i n hn
        unfold zbo at h
        split at h
        · rename_i b o u len cap k q hx hi
          split at h
          · rename_i hb
            cases h
            have h1 := hr x; rw [hx] at h1
            have h2 := hr i; rw [hi] at h2
            obtain ⟨L, co, ccap, ca, hL, hc, ho, hlen, hcap, _, hca⟩ := h1.slc_inv
            have hco : co = L.off + o := by rcases ho with ho | ho <;> omega
            obtain rfl : ca = ⟨L.blk, co, none⟩ := hca.resolve_right (by omega)
            subst hco
            refine ⟨_, .ptr b (o + q.toNat * n) L hL, fun w => ?_⟩
            simp only [execOp, Instr.indexAt, Sem.run_bind, run_underlying hu, Result.andThen_ok, hc, h2.int_inv, asIntOf, Sem.run_pure, zel hn w]
            simp only [hb, and_self, if_true, Sem.run_bind, zel hn w, Result.andThen_ok, Sem.run_pure]
            simp [Addr.add]
            split <;> simp_all [Nat.add_assoc]
          · cases h
        · cases h
      · cases h
    · rename_i k el hu
      split at h
      · rename_i n hn
        unfold zo5 at h
        split at h
        · rename_i b o kk q hx hi
          split at h
          · rename_i hb
            cases h
            have h1 := hr x; rw [hx] at h1
            have h2 := hr i; rw [hi] at h2
            obtain ⟨L, hL, hc⟩ := h1.ptr_inv
            refine ⟨_, .ptr b (o + q.toNat * n) L hL, fun w => ?_⟩
            simp only [execOp, Instr.indexAt, Sem.run_bind, run_underlying hu, Result.andThen_ok, hc, h2.int_inv, asIntOf, Sem.run_pure, Instr.sureAddr]
            simp only [hb, and_self, if_true, Sem.run_bind, zel hn w, Result.andThen_ok, Sem.run_pure]
            simp [Addr.add]
            split <;> simp_all [Nat.add_assoc]
          · cases h
        · cases h
      · cases h
    · cases h
  · -- an element
    rename_i t x i
    split at h
    · rename_i hu
      unfold zh9 at h
      split at h
      · rename_i s k q hx hi
        split at h
        · rename_i h0
          split at h
          · rename_i b hb
            cases h
            have h1 := hr x; rw [hx] at h1
            have h2 := hr i; rw [hi] at h2
            exact ⟨_, .int _ _, fun w => by simp [execOp, Instr.index, run_underlying hu, h1.string_inv, h2.int_inv, asIntOf, h0, hb]⟩
          · cases h
        · cases h
      · cases h
    · rename_i k el hu
      split at h
      · rename_i hk
        unfold zbvw at h
        split at h
        · rename_i cs kk q hx hi
          split at h
          · rename_i hb
            have h2 := hr i; rw [hi] at h2
            obtain ⟨A, v, hA, hv, hrel⟩ := zbbm (off := q.toNat) (by unfold fld1; rw [hx]; exact h) (hr x)
            refine ⟨v, hrel, fun w => ?_⟩
            simp only [execOp, Instr.index, Sem.run_bind, run_underlying hu, Result.andThen_ok, h2.int_inv, asIntOf, Sem.run_pure, hA]
            simp only [hb, and_self, if_true, Sem.run_bind, (zbg6 hk).2 w, Result.andThen_ok, Nat.mul_one, zbjs hk hv w, Sem.run_pure]
          · cases h
        · cases h
      · rename_i n hk
        unfold zbvx at h
        split at h
        · rename_i kk q hi
          split at h
          · rename_i hb
            have h2 := hr i; rw [hi] at h2
            obtain ⟨A, hA, hrel⟩ := zbbn h (hr x)
            refine ⟨_, hrel, fun w => ?_⟩
            simp only [execOp, Instr.index, Sem.run_bind, run_underlying hu, Result.andThen_ok, h2.int_inv, asIntOf, Sem.run_pure, hA]
            simp only [hb, and_self, if_true, Sem.run_bind, (z0c hk).2 w, Result.andThen_ok, zbjt hk w, Sem.run_pure]
          · cases h
        · cases h
      · cases h
    · cases h
  · -- a part of a tuple
    rename_i t i
    unfold ext at h
    split at h
    · rename_i vs hx
      have h1 := hr t; rw [hx] at h1
      have h2 : ∃ x', c t = .tuple x' ∧ LRel ρ vs.toList x'.toList := by
        generalize c t = q at h1
        cases h1 with
        | undef v => simp at h
        | tuple _ x' h2 h3 => exact ⟨_, rfl, arel h2 h3⟩
      obtain ⟨x', hc, hl⟩ := h2
      obtain ⟨v, hv, hrel⟩ := hl.get i r h
      simp only [Array.getElem?_toList] at hv
      exact ⟨v, hrel, fun w => by simp [execOp, Instr.extract, hc, hv]⟩
    · cases h
  · -- builtins
    rename_i cl
    obtain ⟨callee, args, argTypes⟩ := cl
    simp only at h
    split at h
    · rename_i b
      obtain ⟨r', h1, h2⟩ := zbju hr ty h
      refine ⟨r', h1, fun w => ?_⟩
      simp only [execOp, resolve, Sem.run_bind, Sem.run_pure, Result.andThen_ok, invoke]
      exact h2 w _
    · cases h
  · cases h
end Go.AM
