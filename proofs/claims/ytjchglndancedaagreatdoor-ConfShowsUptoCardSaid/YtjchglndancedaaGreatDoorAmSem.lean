import Derived.Calls
import Derived.Below
import Derived.KernelRfl
set_option linter.all false
/- The abstract machine: a deterministic reading of the model's code over blocks with abstract numbers. -/
namespace Go.AM
abbrev V:=Value
def _root_.Go.Value.isOne:Value→Bool
 | .agg _ | .tuple _ | .chan _=>false
 | _=>true
inductive Blk where
 | cells (rw:Bool) (cs:List V)
 | map (rw:Bool) (es:List (V × V))
 | siter (s:ByteArray) (pos:Nat)
 /-- a strings.Builder in a block of type t: is it used, which block its bytes are in, how many they are; no plain step touches it -/
 | bld (t:TypeId) (used:Bool) (buf:Option Nat) (n:Nat)
 /-- a Builder's bytes, in a row of elements of type t -/
 | buf (t:TypeId) (l:List UInt8)
def _root_.Go.Value.isSolid:Value→Bool
 | .tuple _ | .chan _=>false
 | _=>true
inductive BT where
 | nil
 | node (v:Option Blk) (l r:BT)
namespace BT
def get:BT→Nat→Option Blk
 | nil,_=>none
 | node v l r,i=>bif Nat.beq i 0 then v else bif Nat.beq (i % 2) 1 then get l (i / 2) else get r (i / 2 - 1)
def set:BT→Nat→Option Blk→BT
 | nil,_,_=>nil
 | node v l r,i,x=>bif Nat.beq i 0 then node x l r else bif Nat.beq (i % 2) 1 then node v (set l (i / 2) x) r else node v l (set r (i / 2 - 1) x)
def put:BT→Nat→Option Blk→BT
 | nil,_,x=>node x nil nil
 | node v l r,i,x=>bif Nat.beq (i % 2) 1 then node v (put l (i / 2) x) r else node v l (put r (i / 2 - 1) x)
def wf:BT→Nat→Prop
 | nil,n=>n=0
 | node _ l r,n=>0 < n∧wf l (n / 2)∧wf r ((n - 1) / 2)
theorem zbs0 {a b:Nat}:Nat.beq a b=decide (a=b):=by
 cases h:Nat.beq a b with
 | true=>have:=Nat.eq_of_beq_eq_true h;simp[this]
 | false=>have:=Nat.ne_of_beq_eq_false h;simp[this]
theorem zgr (v:Option Blk) (l r:BT) (i:Nat):get (node v l r) i=if i=0 then v else if i % 2=1 then get l (i / 2) else get r (i / 2 - 1):=by
 simp only[get,zbs0]
 by_cases h:i=0 <;> by_cases h2:i % 2=1 <;> simp[h,h2]
theorem zbpi (v:Option Blk) (l r:BT) (i:Nat) (x:Option Blk):set (node v l r) i x=if i=0 then node x l r else if i % 2=1 then node v (set l (i / 2) x) r else node v l (set r (i / 2 - 1) x):=by
 simp only[set,zbs0]
 by_cases h:i=0 <;> by_cases h2:i % 2=1 <;> simp[h,h2]
theorem zbpj (v:Option Blk) (l r:BT) (i:Nat) (x:Option Blk):put (node v l r) i x=if i % 2=1 then node v (put l (i / 2) x) r else node v l (put r (i / 2 - 1) x):=by
 simp only[put,zbs0]
 by_cases h2:i % 2=1 <;> simp[h2]
theorem get_big:∀ {t:BT} {n i:Nat},wf t n→n≤i→get t i=none
 | nil,_,_,_,_=>rfl
 | node v l r,n,i,⟨h0,h1,h2⟩,hi=>by
  rw[zgr,if_neg (by omega)]
  split
  ·exact get_big h1 (by omega)
  ·exact get_big h2 (by omega)
theorem wf_set:∀ {t:BT} {n:Nat} (i:Nat) (x:Option Blk),wf t n→wf (set t i x) n
 | nil,_,_,_,h=>h
 | node v l r,n,i,x,⟨h0,h1,h2⟩=>by
  rw[zbpi]
  split
  ·exact⟨h0,h1,h2⟩
  ·split
   ·exact⟨h0,wf_set _ _ h1,h2⟩
   ·exact⟨h0,h1,wf_set _ _ h2⟩
theorem wf_put:∀ {t:BT} {n:Nat} (x:Option Blk),wf t n→wf (put t n x) (n + 1)
 | nil,n,x,h=>by
  have:n=0:=h
  subst this
  exact⟨by omega,rfl,rfl⟩
 | node v l r,n,x,⟨h0,h1,h2⟩=>by
  rw[zbpj]
  split
  ·refine⟨by omega,?_,?_⟩
   ·rw[show (n + 1) / 2=n / 2 + 1 by omega];exact wf_put x h1
   ·rw[show (n + 1 - 1) / 2=(n - 1) / 2 by omega];exact h2
  ·refine⟨by omega,?_,?_⟩
   ·rw[show (n + 1) / 2=n / 2 by omega];exact h1
   ·have h2':wf r (n / 2 - 1):=by rw[show n / 2 - 1=(n - 1) / 2 by omega];exact h2
    rw[show (n + 1 - 1) / 2=n / 2 - 1 + 1 by omega];exact wf_put x h2'
theorem get_put:∀ {t:BT} {n:Nat} (x:Option Blk) (i:Nat),wf t n→get (put t n x) i=if i=n then x else get t i
 | nil,n,x,i,h=>by
  have:n=0:=h
  subst this
  show get (node x nil nil) i=_
  rw[zgr]
  by_cases h:i=0
  ·rw[if_pos h,if_pos h]
  ·rw[if_neg h,if_neg h];split <;> rfl
 | node v l r,n,x,i,⟨h0,h1,h2⟩=>by
  rw[zbpj]
  by_cases hn:n % 2=1
  ·rw[if_pos hn,zgr,zgr]
   by_cases hi:i=0
   ·rw[if_pos hi,if_neg (by omega),if_pos hi]
   ·rw[if_neg hi,if_neg hi]
    by_cases hi2:i % 2=1
    ·rw[if_pos hi2,if_pos hi2,get_put x _ h1]
     by_cases he:i=n
     ·rw[if_pos he,if_pos (by omega)]
     ·rw[if_neg he,if_neg (by omega)]
    ·rw[if_neg hi2,if_neg hi2,if_neg (by omega)]
  ·have h2':wf r (n / 2 - 1):=by rw[show n / 2 - 1=(n - 1) / 2 by omega];exact h2
   rw[if_neg hn,zgr,zgr]
   by_cases hi:i=0
   ·rw[if_pos hi,if_neg (by omega),if_pos hi]
   ·rw[if_neg hi,if_neg hi]
    by_cases hi2:i % 2=1
    ·rw[if_pos hi2,if_pos hi2,if_neg (by omega)]
    ·rw[if_neg hi2,if_neg hi2,get_put x _ h2']
     by_cases he:i=n
     ·rw[if_pos he,if_pos (by omega)]
     ·rw[if_neg he,if_neg (by omega)]
theorem get_set:∀ {t:BT} {n:Nat} (b:Nat) (x:Option Blk) (i:Nat),wf t n→get (set t b x) i=if i=b∧b < n then x else get t i
 | nil,n,b,x,i,h=>by
  have:n=0:=h
  rw[if_neg (by omega)];rfl
 | node v l r,n,b,x,i,⟨h0,h1,h2⟩=>by
  rw[zbpi]
  by_cases hb:b=0
  ·rw[if_pos hb,zgr,zgr]
   by_cases hi:i=0
   ·rw[if_pos hi,if_pos (show i=b∧b < n by omega)]
   ·rw[if_neg hi,if_neg hi,if_neg (show ¬ (i=b∧b < n) by omega)]
  ·rw[if_neg hb]
   by_cases hb2:b % 2=1
   ·rw[if_pos hb2,zgr,zgr]
    by_cases hi:i=0
    ·rw[if_pos hi,if_pos hi,if_neg (show ¬ (i=b∧b < n) by omega)]
    ·rw[if_neg hi,if_neg hi]
     by_cases hi2:i % 2=1
     ·rw[if_pos hi2,if_pos hi2,get_set _ _ _ h1]
      by_cases he:i=b∧b < n
      ·rw[if_pos he,if_pos (by omega)]
      ·rw[if_neg he,if_neg (by omega)]
     ·rw[if_neg hi2,if_neg hi2,if_neg (show ¬ (i=b∧b < n) by omega)]
   ·rw[if_neg hb2,zgr,zgr]
    by_cases hi:i=0
    ·rw[if_pos hi,if_pos hi,if_neg (show ¬ (i=b∧b < n) by omega)]
    ·rw[if_neg hi,if_neg hi]
     by_cases hi2:i % 2=1
     ·rw[if_pos hi2,if_pos hi2,if_neg (show ¬ (i=b∧b < n) by omega)]
     ·rw[if_neg hi2,if_neg hi2,get_set _ _ _ h2]
      by_cases he:i=b∧b < n
      ·rw[if_pos he,if_pos (by omega)]
      ·rw[if_neg he,if_neg (by omega)]
theorem zbpk (v:Option Blk) (l r:BT) (i:Nat):get (node v l r) (2 * i + 1)=get l i:=by
 rw[zgr,if_neg (show ¬ 2 * i + 1=0 by omega),if_pos (show (2 * i + 1) % 2=1 by omega),show (2 * i + 1) / 2=i by omega]
theorem zbl3 (v:Option Blk) (l r:BT) (i:Nat):get (node v l r) (2 * i + 2)=get r i:=by
 rw[zgr,if_neg (show ¬ 2 * i + 2=0 by omega),if_neg (show ¬ (2 * i + 2) % 2=1 by omega),show (2 * i + 2) / 2 - 1=i by omega]
theorem ext:∀ {t u:BT} {n:Nat},wf t n→wf u n→(∀ i,i < n→get t i=get u i)→t=u
 | nil,nil,_,_,_,_=>rfl
 | nil,node _ _ _,n,h,⟨h0,_,_⟩,_=>by have:n=0:=h;omega
 | node _ _ _,nil,n,⟨h0,_,_⟩,h,_=>by have:n=0:=h;omega
 | node v l r,node v' l' r',n,⟨h0,h1,h2⟩,⟨_,g1,g2⟩,h=>by
  have e0:=h 0 h0
  rw[zgr,zgr,if_pos rfl,if_pos rfl] at e0
  have e1:l=l':=ext h1 g1 fun i hi=>by
   have:=h (2 * i + 1) (by omega)
   rwa[zbpk,zbpk] at this
  have e2:r=r':=ext h2 g2 fun i hi=>by
   have:=h (2 * i + 2) (by omega)
   rwa[zbl3,zbl3] at this
  rw[e0,e1,e2]
end BT
structure Heap where
 tree:BT
 next:Nat
 ok:tree.wf next
namespace Heap
def get (H:Heap) (b:Nat):Option Blk:=H.tree.get b
def set (H:Heap) (b:Nat) (x:Option Blk):Heap:=⟨H.tree.set b x,H.next,BT.wf_set b x H.ok⟩
def push (H:Heap) (x:Option Blk):Heap:=⟨H.tree.put H.next x,H.next + 1,BT.wf_put x H.ok⟩
def cell (H:Heap) (b o:Nat):Option V:=match H.get b with | some (.cells _ cs)=>cs[o]? | _=>none
def none0:Heap:=⟨.nil,0,rfl⟩
def one (x:Blk):Heap:=none0.push (some x)
theorem get_big {H:Heap} {b:Nat} (h:H.next≤b):H.get b=none:=BT.get_big H.ok h
theorem same {H H':Heap} (hn:H.next=H'.next) (hg:∀ b,b < H.next→H.get b=H'.get b):H=H':=by
 obtain⟨t,n,ok⟩:=H
 obtain⟨t',n',ok'⟩:=H'
 cases hn
 have:t=t':=BT.ext ok ok' hg
 subst this;rfl
def mk0:Nat→(Nat→Option Blk)→Heap
 | 0,_=>none0
 | n + 1,f=>(mk0 n f).push (f n)
theorem mk0_next:∀ (n:Nat) (f:Nat→Option Blk),(mk0 n f).next=n
 | 0,_=>rfl
 | n + 1,f=>by show (mk0 n f).next + 1=_;rw[mk0_next n f]
theorem mk0_get:∀ (n:Nat) (f:Nat→Option Blk) (b:Nat),(mk0 n f).get b=if b < n then f b else none
 | 0,_,_=>rfl
 | n + 1,f,b=>by
  show (((mk0 n f).tree.put (mk0 n f).next (f n))).get b=_
  rw[BT.get_put _ _ (mk0 n f).ok,mk0_next]
  have:=mk0_get n f b
  by_cases h:b=n
  ·subst h;rw[if_pos rfl,if_pos (by omega)]
  ·rw[if_neg h]
   show (mk0 n f).get b=_
   rw[this]
   by_cases h2:b < n
   ·rw[if_pos h2,if_pos (by omega)]
   ·rw[if_neg h2,if_neg (by omega)]
def one? (K:Heap):Option Blk:=bif Nat.beq K.next 1 then K.get 0 else none
theorem one?_one (x:Blk):(one x).one? = some x:=rfl
theorem one?_inv {K:Heap} {x:Blk} (h:K.one? = some x):K=one x:=by
 unfold one? at h
 cases hb:Nat.beq K.next 1 with
 | false=>rw[hb] at h;cases h
 | true =>
  rw[hb] at h
  have hn:=Nat.eq_of_beq_eq_true hb
  refine same hn fun b hb'=>?_
  have:b=0:=by omega
  subst this
  exact h
end Heap
def M (α:Type):=Heap→Option (α × Heap)
def ret {α:Type} (a:α):M α:=fun H=>some (a,H)
def zb {α β:Type} (m:M α) (k:α→M β):M β:=fun H=>match m H with | some (a,H')=>k a H' | none=>none
def fail {α:Type}:M α:=fun _=>none
def za {α:Type} (o:Option α):M α:=fun H=>match o with | some a=>some (a,H) | none=>none
def zdj (b:Bool) {α:Type} (m:M α):M α:=fun H=>if b then m H else none
abbrev ptr (b o:Nat):V := .pointer (some ⟨b,o,none⟩)
abbrev slc (b o u len cap:Nat):V := .slice (some ⟨b,o,some u⟩) len cap
abbrev i64 (n:Int):V := .int .i64 n
def splice (cs:List V) (o:Nat) (l:List V):List V:=cs.take o ++ (l ++ cs.drop (o + l.length))
def zbu:List V→List (Nat × Nat × V)→Option (List V)
 | cs,[]=>some cs
 | cs,(off,size,v) :: rest =>
  if (v.cells.toList.all Value.isOne && v.cells.size == size && decide (off + size≤cs.length))=true then zbu (splice cs off v.cells.toList) rest else none
def z8 (c a b:V):Option V:=match c with | .bool true=>some a | .bool false=>some b | _=>none
def zbbw (op:BinOp) (k:IntKind) (x y:Int):Option V :=
 let a:=BitVec.ofInt k.bits x
 let b:=BitVec.ofInt k.bits y
 match op with
 | .and=>some (.int k (k.wrap (a &&& b).toNat))
 | .or=>some (.int k (k.wrap (a ||| b).toNat))
 | .xor=>some (.int k (k.wrap (a ^^^ b).toNat))
 | .andNot=>some (.int k (k.wrap (a &&& ~~~b).toNat))
 | _=>none
def z07 (op:BinOp) (k:IntKind) (x y:Int):Option V :=
 match op with
 | .add=>some (.int k (k.wrap (x + y)))
 | .sub=>some (.int k (k.wrap (x - y)))
 | .mul=>some (.int k (k.wrap (x * y)))
 | .quo=>if y=0 then none else some (.int k (k.wrap (x.tdiv y)))
 | .rem=>if y=0 then none else some (.int k (x.tmod y))
 | .eql=>some (.bool (x == y))
 | .neq=>some (.bool (x != y))
 | .lss=>some (.bool (decide (x < y)))
 | .leq=>some (.bool (decide (x≤y)))
 | .gtr=>some (.bool (decide (x > y)))
 | .geq=>some (.bool (decide (x≥y)))
 | op=>zbbw op k x y
def zbab (op:BinOp) (k:IntKind) (x y:Int):Option V :=
 if y < 0 then none else
 match op with
 | .shl=>some (.int k (k.wrap (x * 2 ^ (min y.toNat k.bits))))
 | .shr=>some (.int k (x.fdiv (2 ^ (min y.toNat k.bits))))
 | _=>none
def sbin (op:BinOp) (x y:ByteArray):Option V :=
 match op with
 | .add=>if x.size + y.size≤4611686018427387904 then some (.string (x ++ y)) else none
 | .eql=>some (.bool (decide (x=y)))
 | .neq=>some (.bool (!decide (x=y)))
 | .lss=>some (.bool (Op.bytesLess x.toList y.toList))
 | .leq=>some (.bool (Op.bytesLess x.toList y.toList || decide (x=y)))
 | .gtr=>some (.bool (!(Op.bytesLess x.toList y.toList || decide (x=y))))
 | .geq=>some (.bool (!Op.bytesLess x.toList y.toList))
 | _=>none
def zu (op:BinOp) (a b:V):Option V :=
 match a,b with
 | .int k x,.int k' y =>
  match op with
  | .shl=>zbab .shl k x y
  | .shr=>zbab .shr k x y
  | op=>if k=k' then z07 op k x y else none
 | .string x,.string y=>sbin op x y
 | _,_=>none
def un (op:UnOp) (a:V):Option V :=
 match op,a with
 | .neg,.int k n=>some (.int k (k.wrap (0 - n)))
 | .xor,.int k n=>zbbw .xor k (if k.signed then -1 else k.max) n
 | .not,.bool b=>some (.bool (!b))
 | _,_=>none
inductive FK where
 | b | i | s
def eqK:FK→V→V→Option Bool
 | .b,.bool a,.bool b=>some (a == b)
 | .i,.int k a,.int k' b=>if k=k' then some (a == b) else none
 | .s,.string a,.string b=>some (decide (a=b))
 | _,_,_=>none
def zqk:List FK→List V→List V→Option Bool
 | [],[],[]=>some true
 | k :: ks,x :: xs,y :: ys=>match eqK k x y with
  | some true=>zqk ks xs ys
  | some false=>some false
  | none=>none
 | _,_,_=>none
def zpt (ks:List FK) (a b:V):Option Bool:=match a,b with | .agg xs,.agg ys=>zqk ks xs.toList ys.toList | _,_=>none
inductive NK where
 | p | s | m | f | i
def zef:NK→V→Option Bool
 | .p,.pointer a=>some a.isNone
 | .s,.slice a _ _=>some a.isNone
 | .m,.map a=>some a.isNone
 | .f,.nilFunc=>some true
 | .f,.func _ _ _=>some false
 | .i,.nilIface=>some true
 | .i,.iface _ _=>some false
 | _,_=>none
def zer (neg:Bool) (o:Option Bool):Option V:=match o with | some b=>some (.bool (if neg then !b else b)) | none=>none
def cvi (k:IntKind) (a:V):Option V:=match a with | .int _ n=>some (.int k (k.wrap n)) | _=>none
def fld1 (off:Nat) (a:V):Option V:=match a with | .agg cs=>cs.toList[off]? | _=>none
def fldn (off n:Nat) (a:V):Option V:=match a with
 | .agg cs=>if off + n≤cs.toList.length then some (.agg ((cs.toList.drop off).take n).toArray) else none
 | _=>none
def zjm (a i:V):Option V:=match a,i with
 | .string s,.int _ i=>if 0≤i then (match s[i.toNat]? with | some b=>some (.int .u8 b.toNat) | none=>none) else none
 | _,_=>none
def zb31 (n:Nat) (a i:V):Option V:=match a,i with
 | .agg cs,.int _ i=>if 0≤i∧i < n then cs.toList[i.toNat]? else none
 | _,_=>none
def zb32 (n size:Nat) (a i:V):Option V:=match i with
 | .int _ i=>if 0≤i∧i < n then fldn (i.toNat * size) size a else none
 | _=>none
def zf (off:Nat) (a:V):Option V:=match a with | .pointer (some ⟨b,o,none⟩)=>some (ptr b (o + off)) | _=>none
def zr (size:Nat) (a i:V):Option V:=match a,i with
 | .slice (some ⟨b,o,some _⟩) len _,.int _ i=>if 0≤i∧i < len then some (ptr b (o + i.toNat * size)) else none
 | _,_=>none
def zn5 (n size:Nat) (a i:V):Option V:=match a,i with
 | .pointer (some ⟨b,o,none⟩),.int _ i=>if 0≤i∧i < n then some (ptr b (o + i.toNat * size)) else none
 | _,_=>none
def zd1 (d most:Nat) (x:Option V):Option Nat:=match x with
 | none=>some d
 | some (.int _ i)=>if 0≤i∧i≤most then some i.toNat else none
 | some _=>none
def capV:V→Option V
 | .slice none 0 0=>some (i64 0)
 | _=>none
def subS (a:V) (lo hi:Option V):Option V:=match a with
 | .string s=>match zd1 s.size s.size hi with
  | some h=>match zd1 0 h lo with
   | some l=>some (.string (s.extract l h))
   | none=>none
  | none=>none
 | _=>none
def zts (b o u l h m size:Nat):V:=if m=l then slc b o u (h - l) (m - l) else slc b (o + l * size) u (h - l) (m - l)
def zh6 (size:Nat) (a:V) (lo hi:Option V):Option V:=match a with
 | .slice x len cap =>
  match zd1 len cap hi with
  | some h=>match zd1 0 h lo with
   | some l=>match x with
    | none=>some (.slice none (h - l) (cap - l))
    | some ⟨b,o,some u⟩=>if u=size∨u=0 then some (zts b o u l h cap size) else none
    | _=>none
   | none=>none
  | none=>none
 | _=>none
def subA (n size:Nat) (a:V) (lo hi:Option V):Option V:=match a with
 | .pointer (some ⟨b,o,none⟩) =>
  match zd1 n n hi with
  | some h=>match zd1 0 h lo with
   | some l=>some (zts b o 0 l h n size)
   | none=>none
  | none=>none
 | _=>none
def ext (i:Nat) (a:V):Option V:=match a with | .tuple vs=>vs.toList[i]? | _=>none
def zb2 (a:V):Option V:=match a with
 | .pointer (some a)=>some (.pointer (some a))
 | .func (.func f) x y=>some (.func (.func f) x y)
 | _=>none
def minV (a b:V):Option V:=match a,b with | .int k x,.int _ y=>some (.int k (if y < x then y else x)) | _,_=>none
def maxV (a b:V):Option V:=match a,b with | .int k x,.int _ y=>some (.int k (if y > x then y else x)) | _,_=>none
def zge:V→Bool
 | .bool _ | .int _ _ | .float _ _ | .complex _ _ _ | .string _ | .pointer none | .slice none 0 0 | .map none | .nilFunc | .nilIface=>true
 | _=>false
def zz (p:V):M V:=fun H=>match p with
 | .pointer (some ⟨b,o,none⟩)=>match H.cell b o with | some v=>some (v,H) | none=>none
 | _=>none
def cellsAt (H:Heap) (b o n:Nat):Option (List V):=match H.get b with
 | some (.cells _ cs)=>if o + n≤cs.length then some ((cs.drop o).take n) else none
 | _=>none
def ldn (n:Nat) (p:V):M V:=fun H=>match p with
 | .pointer (some ⟨b,o,none⟩)=>match cellsAt H b o n with | some l=>some (.agg l.toArray,H) | none=>none
 | _=>none
def st1 (p v:V):M V:=fun H=>match p with
 | .pointer (some ⟨b,o,none⟩)=>match H.get b with
  | some (.cells true cs)=>if (v.isOne && decide (o < cs.length))=true then some (undef,H.set b (some (.cells true (cs.set o v)))) else none
  | _=>none
 | _=>none
def stn (n:Nat) (p v:V):M V:=fun H=>match p,v with
 | .pointer (some ⟨b,o,none⟩),.agg vs=>match H.get b with
  | some (.cells true cs) =>
   if (vs.toList.all Value.isOne && vs.toList.length == n && decide (o + n≤cs.length))=true then some (undef,H.set b (some (.cells true (splice cs o vs.toList)))) else none
  | _=>none
 | _,_=>none
def newc (cs:List V):M V:=fun H=>if cs.all zge=true then some (ptr H.next 0,H.push (some (.cells true cs))) else none
def zdc (v:V):M V:=fun H=>if v.cells.toList.all Value.isOne=true then some (ptr H.next 0,H.push (some (.cells true v.cells.toList))) else none
def bldM (t:TypeId) (v:V):M V:=fun H=>match v.cells.toList with
 | [.pointer none,.slice none 0 0]=>some (ptr H.next 0,H.push (some (.bld t false none 0)))
 | _=>none
def build (zero:List V) (parts:List (Nat × Nat × V)):Option V:=if zero.all zge=true then (match zbu zero parts with | some cs=>some (.agg cs.toArray) | none=>none) else none
def zcc (size len:Nat) (zero:List V) (parts:List (Nat × Nat × V)):M V:=fun H=>if zero.all zge=true then (match zbu zero parts with
 | some cs=>some (slc H.next 0 size len len,H.push (some (.cells true cs)))
 | none=>none) else none
def rep (n:Nat) (zero:List V):List V:=match n with | 0=>[] | n + 1=>zero ++ rep n zero
def zul (size bytes:Nat) (zero:List V) (n c:V):M V:=fun H=>match n,c with
 | .int _ n,.int _ c=>if zero.all zge=true∧0≤n∧n≤c∧c≤140737488355328∧bytes * c≤140737488355328 then some (slc H.next 0 size n.toNat c.toNat,H.push (some (.cells true (rep c.toNat zero)))) else none
 | _,_=>none
def zn6 (s:ByteArray):List V:=s.data.toList.map fun b => .int .u8 b.toNat
def s2b (a:V):M V:=fun H=>match a with
 | .string s=>if s.size < 9223372036854775807 then some (slc H.next 0 1 s.size s.size,H.push (some (.cells true (zn6 s)))) else none
 | _=>none
def zbg6:V→Option UInt8 | .int .u8 n=>some (UInt8.ofNat n.toNat) | _=>none
def zql:List V→Option (List UInt8)
 | []=>some []
 | v :: vs=>match zbg6 v with | some b=>(match zql vs with | some l=>some (b :: l) | none=>none) | none=>none
def b2s (a:V):M V:=fun H=>match a with
 | .slice none _ _=>some (.string .empty,H)
 | .slice (some ⟨b,o,some _⟩) len _=>match cellsAt H b o len with
  | some l=>match zql l with | some bs=>some (.string ⟨bs.toArray⟩,H) | none=>none
  | none=>none
 | _=>none
def zbf (H:Heap) (size:Nat) (a:V):Option (List V):=match a with
 | .slice none 0 _=>some []
 | .slice (some ⟨b,o,some _⟩) len _=>if len=0 then some [] else cellsAt H b o (len * size)
 | _=>none
def zfh:V→Nat | .slice _ n _=>n | .string s=>s.size | _=>0
def zsp (H:Heap) (size:Nat) (a:V):Option Heap:=match a with
 | .slice none _ _=>some H
 | .slice (some ⟨b,_,some u⟩) _ _=>match H.get b with
  | some (.cells true _)=>if u=size then some (H.set b none) else none
  | _=>none
 | _=>none
def zvu (size bytes:Nat) (s:V) (n:Nat) (new:Option (List V)):M V:=fun H =>
 match s with
 | .slice x len cap =>
  if n=0 then some (.slice x len cap,H) else
  match new,zbf H size s,zsp H size s with
  | some new,some old,some H' =>
   if (len + n) * bytes≤35184372088832∧len + n≤35184372088832∧new.all Value.isOne=true∧new.length=n * size then some (slc H'.next 0 size (len + n) (len + n),H'.push (some (.cells true (old ++ new)))) else none
  | _,_,_=>none
 | _=>none
def zd0 (size bytes:Nat) (s x:V):M V:=fun H=>match x with
 | .slice a n c=>zvu size bytes s n (zbf H size (.slice a n c)) H
 | _=>none
def appS (s x:V):M V:=fun H=>match x with
 | .string t=>zvu 1 1 s t.size (some (zn6 t)) H
 | _=>none
def appZ (size bytes:Nat) (zero:List V) (s x:V):M V:=fun H=>match x with
 | .int _ n=>if zero.all zge=true∧0≤n∧n.toNat * bytes≤35184372088832∧n.toNat≤35184372088832 then zvu size bytes s n.toNat (some (rep n.toNat zero)) H else none
 | _=>none
def zbyg (H:Heap) (size n:Nat) (x:V):Option (List V):=match x with
 | .string t=>some ((zn6 t).take n)
 | .slice none _ _=>some []
 | .slice (some ⟨b,o,some _⟩) _ _=>cellsAt H b o (n * size)
 | _=>none
def cpy (size:Nat) (d x:V):M V:=fun H=>match d with
 | .slice none _ _=>match x with
  | .slice _ _ _=>some (i64 0,H)
  | .string _=>some (i64 0,H)
  | _=>none
 | .slice (some ⟨b,o,some _⟩) dlen _ =>
  match zbyg H size (Nat.min (zfh x) dlen) x with
  | some l=>match H.get b with
   | some (.cells true cs) =>
    if (l.all Value.isOne && l.length == Nat.min (zfh x) dlen * size && decide (o + Nat.min (zfh x) dlen * size≤cs.length))=true then
     some (i64 (Nat.min (zfh x) dlen),H.set b (some (.cells true (splice cs o l)))) else none
   | _=>none
  | none=>none
 | _=>none
inductive KK where
 | one (k:FK)
 | agg (ks:List FK)
def zvv (kk:KK) (a b:V):Option Bool:=match kk with
 | .one k=>eqK k a b
 | .agg ks=>zpt ks a b
def zjr (kk:KK) (k:V):List (V × V)→Option (Option Nat)
 | []=>some none
 | e :: es=>match zvv kk k e.1 with
  | some true=>some (some 0)
  | some false=>(match zjr kk k es with | some (some i)=>some (some (i + 1)) | some none=>some none | none=>none)
  | none=>none
def zo3 (kk:KK) (v:V):Bool:=match kk,v with
 | .one _,_=>true
 | .agg ks,.agg xs=>xs.toList.length == ks.length
 | _,_=>false
def zvw:M V:=fun H=>some (.map (some H.next),H.push (some (.map true [])))
def z7p (H:Heap) (m:V):Option (List (V × V)):=match m with
 | .map none=>some []
 | .map (some b)=>match H.get b with | some (.map _ es)=>some es | _=>none
 | _=>none
def lookup (kk:KK) (zero:V) (ok:Bool) (m k:V):M V:=fun H=>if (zo3 kk k && zge zero)=true then (match z7p H m with
 | some es=>match zjr kk k es with
  | some (some i)=>match es[i]? with
   | some e=>some (if ok then .tuple #[e.2,.bool true] else e.2,H)
   | none=>none
  | some none=>some (if ok then .tuple #[zero,.bool false] else zero,H)
  | none=>none
 | none=>none) else none
def zgm (kk:KK) (m k v:V):M V:=fun H=>if (zo3 kk k && k.isSolid && v.isSolid)=true then (match m with
 | .map (some b)=>match H.get b with
  | some (.map true es)=>match zjr kk k es with
   | some (some i)=>some (undef,H.set b (some (.map true (es.set i (k,v)))))
   | some none=>some (undef,H.set b (some (.map true (es ++ [(k,v)]))))
   | none=>none
  | _=>none
 | _=>none) else none
def zbs1 (kk:KK) (m k:V):M V:=fun H=>if zo3 kk k=true then (match m with
 | .map none=>some (undef,H)
 | .map (some b)=>match H.get b with
  | some (.map true es)=>match zjr kk k es with
   | some (some i)=>some (undef,H.set b (some (.map true (es.eraseIdx i))))
   | some none=>some (undef,H)
   | none=>none
  | _=>none
 | _=>none) else none
def lenM (m:V):M V:=fun H=>match z7p H m with | some es=>some (i64 es.length,H) | none=>none
end Go.AM

/- How abstract values and heaps stand to the model's: blocks are renamed, slices may have more room. -/
namespace Go.AM
open Go.RowKit (Below)
structure Loc where
 blk:Nat
 off:Nat
 size:Nat
abbrev Ren:=Nat→Option Loc
def tokV (n:Nat):V := .iface (n / 1099511627776) (.agg #[.pointer (some ⟨n / 1048576 % 1048576,n % 1048576,none⟩)])
inductive VRel (ρ:Ren):V→V→Prop where
 | undef (v:V):VRel ρ (.tuple #[]) v
 | skip:VRel ρ (.chan none) (.tuple #[])
 | tok (n:Nat):VRel ρ (.chan (some n)) (tokV n)
 | bool (b:Bool):VRel ρ (.bool b) (.bool b)
 | int (k:IntKind) (n:Int):VRel ρ (.int k n) (.int k n)
 | float (k:FloatKind) (n:Nat):VRel ρ (.float k n) (.float k n)
 | complex (k:FloatKind) (a b:Nat):VRel ρ (.complex k a b) (.complex k a b)
 | string (s:ByteArray):VRel ρ (.string s) (.string s)
 | pnil:VRel ρ (.pointer none) (.pointer none)
 | ptr (b o:Nat) (L:Loc) (h:ρ b=some L):VRel ρ (.pointer (some ⟨b,o,none⟩)) (.pointer (some ⟨L.blk,L.off + o,none⟩))
 | snil:VRel ρ (.slice none 0 0) (.slice none 0 0)
 | slc (b o u len cap:Nat) (L:Loc) (co ccap:Nat) (ca:Addr) (h:ρ b=some L) (ho:co=L.off + o∨cap=0) (hl:len≤cap) (hc:cap≤ccap) (hs:u=0∨co + ccap * u≤L.size) (hca:ca=⟨L.blk,co,none⟩∨ccap=0) (hmx:u=0∨ccap≤9223372036854775807) :
   VRel ρ (.slice (some ⟨b,o,some u⟩) len cap) (.slice (some ca) len ccap)
 | mnil:VRel ρ (.map none) (.map none)
 | map (b:Nat) (L:Loc) (h:ρ b=some L):VRel ρ (.map (some b)) (.map (some L.blk))
 | nilFunc:VRel ρ .nilFunc .nilFunc
 | nilIface:VRel ρ .nilIface .nilIface
 | func (fn:Fn) (x y x' y':Array V) (hx:x.size=x'.size) (hy:y.size=y'.size) (h:∀ i (h:i < x.size) (h':i < x'.size),VRel ρ x[i] x'[i])
   (g:∀ i (h:i < y.size) (h':i < y'.size),VRel ρ y[i] y'[i]):VRel ρ (.func fn x y) (.func fn x' y')
 | iface (t:TypeId) (v v':V) (h:VRel ρ v v'):VRel ρ (.iface t v) (.iface t v')
 | agg (x x':Array V) (hx:x.size=x'.size) (h:∀ i (h:i < x.size) (h':i < x'.size),VRel ρ x[i] x'[i]):VRel ρ (.agg x) (.agg x')
 | tuple (x x':Array V) (hx:x.size=x'.size) (h:∀ i (h:i < x.size) (h':i < x'.size),VRel ρ x[i] x'[i]):VRel ρ (.tuple x) (.tuple x')
inductive LRel (ρ:Ren):List V→List V→Prop where
 | nil:LRel ρ [] []
 | cons {x y:V} {xs ys:List V}:VRel ρ x y→LRel ρ xs ys→LRel ρ (x :: xs) (y :: ys)
def Ren.le (ρ ρ':Ren):Prop:=∀ b L,ρ b=some L→ρ' b=some L
theorem Ren.le.refl (ρ:Ren):ρ.le ρ:=fun _ _ h=>h
theorem Ren.le.trans {a b c:Ren} (h:a.le b) (g:b.le c):a.le c:=fun x L e=>g x L (h x L e)
theorem VRel.mono {ρ ρ':Ren} (hle:ρ.le ρ') {v v':V} (h:VRel ρ v v'):VRel ρ' v v':=by
 induction h with
 | undef v=>exact .undef v
 | skip=>exact .skip
 | tok n=>exact .tok n
 | bool b=>exact .bool b
 | int k n=>exact .int k n
 | float k n=>exact .float k n
 | complex k a b=>exact .complex k a b
 | string s=>exact .string s
 | pnil=>exact .pnil
 | ptr b o L h=>exact .ptr b o L (hle _ _ h)
 | snil=>exact .snil
 | slc b o u len cap L co ccap ca h ho hl hc hs hca hmx=>exact .slc b o u len cap L co ccap ca (hle _ _ h) ho hl hc hs hca hmx
 | mnil=>exact .mnil
 | map b L h=>exact .map b L (hle _ _ h)
 | nilFunc=>exact .nilFunc
 | nilIface=>exact .nilIface
 | func fn x y x' y' hx hy _ _ ih ig=>exact .func fn x y x' y' hx hy ih ig
 | iface t v v' _ ih=>exact .iface t v v' ih
 | agg x x' hx _ ih=>exact .agg x x' hx ih
 | tuple x x' hx _ ih=>exact .tuple x x' hx ih
theorem LRel.mono {ρ ρ':Ren} (hle:ρ.le ρ') {l l':List V} (h:LRel ρ l l'):LRel ρ' l l':=by
 induction h with
 | nil=>exact .nil
 | cons h _ ih=>exact .cons (h.mono hle) ih
theorem LRel.length {ρ:Ren} {l l':List V} (h:LRel ρ l l'):l.length=l'.length:=by
 induction h with
 | nil=>rfl
 | cons _ _ ih=>simp[ih]
theorem LRel.get {ρ:Ren} {l l':List V} (h:LRel ρ l l'):∀ (i:Nat) (v:V),l[i]? = some v→∃ v',l'[i]? = some v'∧VRel ρ v v':=by
 induction h with
 | nil=>intro i v h;simp at h
 | cons h _ ih =>
  intro i v hi
  cases i with
  | zero=>simp at hi;subst hi;exact⟨_,rfl,h⟩
  | succ i=>exact ih i v (by simpa using hi)
theorem LRel.of_get {ρ:Ren}:∀ {l l':List V},l.length=l'.length→(∀ i (h:i < l.length) (h':i < l'.length),VRel ρ l[i] l'[i])→LRel ρ l l'
 | [],[],_,_ => .nil
 | [],_ :: _,h,_=>by simp at h
 | _ :: _,[],h,_=>by simp at h
 | x :: xs,y :: ys,h,g => .cons (g 0 (by simp) (by simp)) (LRel.of_get (by simpa using h) fun i h h'=>g (i + 1) (by simpa using h) (by simpa using h'))
theorem LRel.getElem {ρ:Ren} {l l':List V} (h:LRel ρ l l') (i:Nat) (hi:i < l.length) (hi':i < l'.length):VRel ρ l[i] l'[i]:=by
 obtain⟨v',h1,h2⟩:=h.get i l[i] (by simp[hi])
 have:l'[i]=v':=by simpa[hi'] using h1
 rw[this];exact h2
theorem LRel.append {ρ:Ren} {a a' b b':List V} (h:LRel ρ a a') (g:LRel ρ b b'):LRel ρ (a ++ b) (a' ++ b'):=by
 induction h with
 | nil=>exact g
 | cons h _ ih=>exact .cons h ih
theorem LRel.take {ρ:Ren} {l l':List V} (h:LRel ρ l l'):∀ n,LRel ρ (l.take n) (l'.take n):=by
 induction h with
 | nil=>intro n;simp;exact .nil
 | cons h _ ih=>intro n;cases n with
  | zero=>simp;exact .nil
  | succ n=>simp;exact .cons h (ih n)
theorem LRel.drop {ρ:Ren} {l l':List V} (h:LRel ρ l l'):∀ n,LRel ρ (l.drop n) (l'.drop n):=by
 induction h with
 | nil=>intro n;simp;exact .nil
 | cons h g ih=>intro n;cases n with
  | zero=>simp;exact .cons h g
  | succ n=>simp;exact ih n
theorem LRel.set {ρ:Ren} {l l':List V} (h:LRel ρ l l') {v v':V} (hv:VRel ρ v v'):∀ n,LRel ρ (l.set n v) (l'.set n v'):=by
 induction h with
 | nil=>intro n;simp;exact .nil
 | cons h g ih=>intro n;cases n with
  | zero=>simp;exact .cons hv g
  | succ n=>simp;exact .cons h (ih n)
theorem VRel.agg' {ρ:Ren} {x x':Array V} (h:LRel ρ x.toList x'.toList):VRel ρ (.agg x) (.agg x') :=
 .agg x x' (by simpa using h.length) fun i hi hi'=>by have:=h.getElem i (by simpa using hi) (by simpa using hi');simpa using this
theorem VRel.tuple' {ρ:Ren} {x x':Array V} (h:LRel ρ x.toList x'.toList):VRel ρ (.tuple x) (.tuple x') :=
 .tuple x x' (by simpa using h.length) fun i hi hi'=>by have:=h.getElem i (by simpa using hi) (by simpa using hi');simpa using this
theorem arel {ρ:Ren} {x x':Array V} (hx:x.size=x'.size) (h:∀ i (h:i < x.size) (h':i < x'.size),VRel ρ x[i] x'[i]):LRel ρ x.toList x'.toList :=
 .of_get (by simpa using hx) fun i hi hi'=>by simpa using h i (by simpa using hi) (by simpa using hi')
theorem VRel.isOne {ρ:Ren} {v v':V} (h:VRel ρ v v') (h1:v.isOne=true):v'.isOne=true:=by
 cases h <;> simp_all [Value.isOne]
theorem z7q {v:V} (h:v.isOne=true):v.cells=#[v]:=by
 cases v <;> simp_all [Value.isOne,Value.cells]
theorem VRel.cells {ρ:Ren} {v v':V} (h:VRel ρ v v') (h1:v.cells.toList.all Value.isOne=true):LRel ρ v.cells.toList v'.cells.toList:=by
 cases h <;> first
  | (simp[Value.cells,Value.isOne] at h1;done)
  | (simp only[Value.cells];exact .cons (by constructor <;> assumption) .nil)
  | (simp only[Value.cells];exact arel (by assumption) (by assumption))
def Born (E:Array MapEntry) (clk:Nat):Prop:=E.toList.Pairwise (fun a b=>a.born < b.born)∧∀ e∈E.toList,e.born < clk
theorem zbpl (c:Nat):Born #[] c:=⟨.nil,fun e he=>by simp at he⟩
def BRel (N:Nat) (ρ:Ren) (w:World) (L:Loc):Blk→Prop
 | .cells rw cs=>∃ C e f,w.heap[L.blk]? = some (.cells C e f)∧C.size=L.size ∧
   ((rw=true→N≤L.blk∧∀ i,i < C.size→¬ (f.1≤i∧i < f.2))∧(rw=false→L.off + cs.length=C.size))∧L.off + cs.length≤C.size∧LRel ρ cs ((C.toList.drop L.off).take cs.length)
 | .map rw es=>L.off=0∧∃ E clk,w.heap[L.blk]? = some (.map E clk)∧(rw=true→N≤L.blk∧Born E clk)∧LRel ρ (es.map (·.1)) (E.toList.map (·.key))∧LRel ρ (es.map (·.2)) (E.toList.map (·.val))
 | .siter s pos=>L.off=0∧N≤L.blk∧w.heap[L.blk]? = some (.stringIter s pos)
 | .bld t used buf n=>L.off=0∧N≤L.blk∧∃ v,w.heap[L.blk]? = some (.cells #[if used then .pointer (some ⟨L.blk,0,none⟩) else .pointer none,v] t (0,0)) ∧
   ((buf=none∧n=0∧v = .slice none 0 0)∨∃ g K,buf=some g∧ρ g=some K∧n≤K.size∧K.size≤maxLen∧v = .slice (some ⟨K.blk,0,none⟩) n K.size)
 | .buf t l=>L.off=0∧N≤L.blk∧∃ C,w.heap[L.blk]? = some (.cells C t (0,0))∧C.size=L.size∧l.length≤C.size∧C.toList.take l.length=l.map fun b => .int .u8 b.toNat
structure Rel (N:Nat) (w₀:World) (ρ:Ren) (H:Heap) (w:World):Prop where
 below:Below N w₀ w
 big:N≤w.heap.size
 dom:∀ b,H.next≤b→ρ b=none
 base:∀ b,b < N→∃ s,ρ b=some ⟨b,0,s⟩
 blk:∀ b x,H.get b=some x→∃ L,ρ b=some L∧BRel N ρ w L x
 inj:∀ b b' x x' L L',H.get b=some x→H.get b'=some x'→b≠b'→ρ b=some L→ρ b'=some L'→L.blk≠L'.blk
def zbyi (ρ:Ren) (H:Heap) (w w':World):Prop :=
 w.heap.size≤w'.heap.size∧∀ c,c < w.heap.size→(∀ b x L,H.get b=some x→ρ b=some L→L.blk≠c)→w'.heap[c]? = w.heap[c]?
theorem BRel.mono {N:Nat} {ρ ρ':Ren} (hle:ρ.le ρ') {w w':World} {L:Loc} {x:Blk} (hw:w'.heap[L.blk]? = w.heap[L.blk]?) (h:BRel N ρ w L x):BRel N ρ' w' L x:=by
 cases x with
 | cells rw cs =>
  obtain⟨C,e,f,h1,h2,h4,h5,h6⟩:=h
  exact⟨C,e,f,hw.trans h1,h2,h4,h5,h6.mono hle⟩
 | map rw es =>
  obtain⟨h0,E,clk,h1,h2,h3,h4⟩:=h
  exact⟨h0,E,clk,hw.trans h1,h2,h3.mono hle,h4.mono hle⟩
 | siter s pos =>
  obtain⟨h0,h1,h2⟩:=h
  exact⟨h0,h1,hw.trans h2⟩
 | bld t used buf n =>
  obtain⟨h0,h1,v,h2,h3⟩:=h
  refine⟨h0,h1,v,hw.trans h2,?_⟩
  rcases h3 with h3 | ⟨g,K,h4,h5,h6⟩
  ·exact .inl h3
  ·exact .inr ⟨g,K,h4,hle _ _ h5,h6⟩
 | buf t cs =>
  obtain⟨h0,h1,C,h2,h3⟩:=h
  exact⟨h0,h1,C,hw.trans h2,h3⟩
theorem Heap.get_lt {H:Heap} {b:Nat} {x:Blk} (h:H.get b=some x):b < H.next:=by
 rcases Nat.lt_or_ge b H.next with hl | hl
 ·exact hl
 ·rw[Heap.get_big hl] at h;cases h
theorem Heap.get_push (H:Heap) (x:Option Blk) (b:Nat):(H.push x).get b=if b=H.next then x else H.get b:=BT.get_put x b H.ok
theorem Heap.next_push (H:Heap) (x:Option Blk):(H.push x).next=H.next + 1:=rfl
theorem Heap.next_set (H:Heap) (b:Nat) (x:Option Blk):(H.set b x).next=H.next:=rfl
theorem Heap.get_set (H:Heap) (b:Nat) (x:Option Blk) (c:Nat) (hb:b < H.next):(H.set b x).get c=if c=b then x else H.get c:=by
 show (H.tree.set b x).get c=_
 rw[BT.get_set b x c H.ok]
 by_cases h:c=b
 ·rw[if_pos h,if_pos ⟨h,hb⟩]
 ·rw[if_neg h,if_neg (fun q=>h q.1)];rfl
def Ren.add (ρ:Ren) (b:Nat) (L:Loc):Ren:=fun c=>if c=b then some L else ρ c
theorem Ren.le_add {ρ:Ren} {b:Nat} (L:Loc) (h:ρ b=none):ρ.le (ρ.add b L):=by
 intro c K hc
 unfold Ren.add
 split
 ·rename_i e;rw[e,h] at hc;cases hc
 ·exact hc
section
variable {N:Nat} {w₀:World} {ρ:Ren} {H:Heap} {w:World}
theorem Rel.lt (h:Rel N w₀ ρ H w) {b:Nat} {x:Blk} {L:Loc} (hb:H.get b=some x) (hL:ρ b=some L):L.blk < w.heap.size:=by
 obtain⟨K,hK,hr⟩:=h.blk b x hb
 rw[hL] at hK;cases hK
 have key:∀ o,w.heap[L.blk]? = some o→L.blk < w.heap.size:=fun o ho=>by
  rcases Nat.lt_or_ge L.blk w.heap.size with hl | hl
  ·exact hl
  ·simp[Array.getElem?_eq_none hl] at ho
 cases x with
 | cells rw cs=>obtain⟨C,e,f,h1,_⟩:=hr;exact key _ h1
 | map rw es=>obtain⟨_,E,clk,h1,_⟩:=hr;exact key _ h1
 | siter s pos=>exact key _ hr.2.2
 | bld t used buf n=>obtain⟨_,_,v,h1,_⟩:=hr;exact key _ h1
 | buf t cs=>obtain⟨_,_,C,h1,_⟩:=hr;exact key _ h1
theorem Rel.alloc (h:Rel N w₀ ρ H w) (x:Blk) (o:Obj) (L:Loc) (hL:L.blk=w.heap.size)
  (hx:BRel N (ρ.add H.next L) { w with heap:=w.heap.push o } L x):Rel N w₀ (ρ.add H.next L) (H.push (some x)) { w with heap:=w.heap.push o } := by
 have hno:ρ H.next=none:=h.dom _ (Nat.le_refl _)
 have hle:=Ren.le_add L hno
 have hold:∀ k,k < w.heap.size→({ w with heap:=w.heap.push o }:World).heap[k]? = w.heap[k]? := fun k hk=>by
  show (w.heap.push o)[k]? = _
  rw[Array.getElem?_push,if_neg (by omega)]
 refine⟨?_,?_,?_,fun b hb=>by obtain⟨s,hs⟩:=h.base b hb;exact⟨s,hle _ _ hs⟩,?_,?_⟩
 ·exact h.below.trans ⟨rfl,rfl,rfl,by simp,fun k hk=>hold k (Nat.lt_of_lt_of_le hk h.big)⟩
 ·have:=h.big;simp;omega
 ·intro b hb
  rw[Heap.next_push] at hb
  unfold Ren.add
  rw[if_neg (by omega)]
  exact h.dom b (by omega)
 ·intro b y hy
  rw[Heap.get_push] at hy
  split at hy
  ·rename_i e
   cases hy;subst e
   exact⟨L,by simp[Ren.add],hx⟩
  ·rename_i e
   obtain⟨K,hK,hr⟩:=h.blk b y hy
   exact⟨K,hle _ _ hK,hr.mono hle (hold _ (h.lt hy hK))⟩
 ·intro b b' y y' K K' hy hy' hne hK hK'
  rw[Heap.get_push] at hy hy'
  unfold Ren.add at hK hK'
  by_cases e:b=H.next
  ·have e':b'≠H.next:=fun q=>hne (e.trans q.symm)
   rw[if_pos e] at hy hK;rw[if_neg e'] at hy' hK'
   cases hK
   have:=h.lt hy' hK'
   omega
  ·by_cases e':b'=H.next
   ·rw[if_neg e] at hy hK;rw[if_pos e'] at hy' hK'
    cases hK'
    have:=h.lt hy hK
    omega
   ·rw[if_neg e] at hy hK;rw[if_neg e'] at hy' hK'
    exact h.inj b b' y y' K K' hy hy' hne hK hK'
theorem Rel.put (h:Rel N w₀ ρ H w) {b:Nat} {x y:Blk} {L:Loc} (hb:H.get b=some x) (hL:ρ b=some L) (hN:N≤L.blk) (w':World)
  (hos:w'.os=w.os) (htape:w'.tape=w.tape) (hout:w'.output=w.output) (hsz:w'.heap.size=w.heap.size)
  (hold:∀ k,k≠L.blk→w'.heap[k]? = w.heap[k]?) (hy:BRel N ρ w' L y):Rel N w₀ ρ (H.set b (some y)) w':=by
 have hlt:=Heap.get_lt hb
 refine⟨?_,?_,?_,h.base,?_,?_⟩
 ·exact h.below.trans ⟨hos,htape,hout,by omega,fun k hk=>hold k (by omega)⟩
 ·rw[hsz];exact h.big
 ·intro c hc;rw[Heap.next_set] at hc;exact h.dom c hc
 ·intro c z hz
  rw[Heap.get_set H b _ c hlt] at hz
  split at hz
  ·rename_i e;cases hz;subst e;exact⟨L,hL,hy⟩
  ·rename_i e
   obtain⟨K,hK,hr⟩:=h.blk c z hz
   exact⟨K,hK,hr.mono (Ren.le.refl _) (hold _ (h.inj c b z x K L hz hb e hK hL))⟩
 ·intro c c' z z' K K' hz hz' hne hK hK'
  rw[Heap.get_set H b _ _ hlt] at hz hz'
  have hz2:∃ q,H.get c=some q:=by
   split at hz
   ·rename_i e;subst e;exact⟨_,hb⟩
   ·exact⟨_,hz⟩
  have hz2':∃ q,H.get c'=some q:=by
   split at hz'
   ·rename_i e;subst e;exact⟨_,hb⟩
   ·exact⟨_,hz'⟩
  obtain⟨q,hq⟩:=hz2;obtain⟨q',hq'⟩:=hz2'
  exact h.inj c c' q q' K K' hq hq' hne hK hK'
theorem Rel.kill (h:Rel N w₀ ρ H w) {b:Nat} {x:Blk} (hb:H.get b=some x):Rel N w₀ ρ (H.set b none) w:=by
 have hlt:=Heap.get_lt hb
 refine⟨h.below,h.big,fun c hc=>h.dom c (by rwa[Heap.next_set] at hc),h.base,fun c z hz=>?_,fun c c' z z' K K' hz hz' hne hK hK'=>?_⟩
 ·rw[Heap.get_set H b _ c hlt] at hz
  split at hz
  ·cases hz
  ·exact h.blk c z hz
 ·rw[Heap.get_set H b _ _ hlt] at hz hz'
  split at hz
  ·cases hz
  ·split at hz'
   ·cases hz'
   ·exact h.inj c c' z z' K K' hz hz' hne hK hK'
theorem Rel.drew (h:Rel N w₀ ρ H w) (n:Nat):Rel N w₀ ρ H { w with drawn:=n } :=
 ⟨⟨h.below.os,h.below.tape,h.below.output,h.below.size,h.below.block⟩,h.big,h.dom,h.base,fun b x hb=>by obtain⟨L,hL,hr⟩:=h.blk b x hb;exact⟨L,hL,hr.mono (Ren.le.refl _) rfl⟩,h.inj⟩
theorem zbyi.refl (ρ:Ren) (H:Heap) (w:World):zbyi ρ H w w:=⟨Nat.le_refl _,fun _ _ _=>rfl⟩
end
end Go.AM

/- What code computes on the abstract machine. -/
namespace Go.AM
inductive TK where
 | one
 | agg (n:Nat)
def tk (P:Program) (t:TypeId):Option TK :=
 match P.underlying t,P.info? t with
 | some (.struct _),some i=>some (.agg i.size)
 | some (.array _ _),some i=>some (.agg i.size)
 | some _,some i=>if i.size=1 then some .one else none
 | _,_=>none
def zf5 (P:Program) (t:TypeId):Option V:=match P.info? t with | some i=>i.zero | none=>none
def zfu (P:Program) (t:TypeId):Option Nat:=match P.info? t with | some i=>some i.size | none=>none
def zn7 (P:Program) (t:TypeId):Option Nat:=match P.info? t with | some i=>some i.bytes | none=>none
def zz6 (P:Program):List Field→Option (List (Nat × Nat))
 | []=>some []
 | f :: fs=>match zfu P f.type,zz6 P fs with
  | some n,some l=>some ((f.offset,n) :: l)
  | _,_=>none
def zyw (pl:List (Nat × Nat)) (ρ:Operand→V):List (Nat × Operand)→Option (List (Nat × Nat × V))
 | []=>some []
 | (i,x) :: rest=>match pl[i]?,zyw pl ρ rest with
  | some p,some l=>some ((p.1,p.2,ρ x) :: l)
  | _,_=>none
def zm6 (size:Nat) (ρ:Operand→V):List (Nat × Operand)→List (Nat × Nat × V)
 | []=>[]
 | (i,x) :: rest=>(i * size,size,ρ x) :: zm6 size ρ rest
def fkT (P:Program) (t:TypeId):Option FK:=match P.underlying t with
 | some .bool=>some .b
 | some (.int _)=>some .i
 | some .string=>some .s
 | _=>none
def zvx (P:Program):Nat→List Field→Option (List FK)
 | _,[]=>some []
 | n,f :: fs=>match fkT P f.type,zvx P (n + 1) fs with
  | some k,some ks=>if (f.name != "_" && f.offset == n)=true then some (k :: ks) else none
  | _,_=>none
def zbhf (P:Program) (t:TypeId):Option (List FK):=match P.underlying t with
 | some (.struct fs)=>if (!P.stoodInHeld t && !P.eqGuardType P.depth t)=true then zvx P 0 fs.toList else none
 | _=>none
def z8c (P:Program) (t:TypeId):Option KK:=match fkT P t with
 | some k=>some (.one k)
 | none=>match zbhf P t with | some ks=>some (.agg ks) | none=>none
def nkT (P:Program) (t:TypeId):Option NK:=match P.underlying t with
 | some (.pointer _)=>some .p
 | some (.slice _)=>some .s
 | some (.map _ _)=>some .m
 | some (.func _ _ _)=>some .f
 | some (.interface _)=>some .i
 | _=>none
def zvy (nk:NK):Operand→Bool
 | .const v=>match zef nk v with | some true=>true | _=>false
 | _=>false
def eqM (P:Program) (neg:Bool) (t:TypeId) (x y:Operand) (ρ:Operand→V):Option V :=
 match P.underlying t with
 | some .bool=>zer neg (eqK .b (ρ x) (ρ y))
 | some (.int _)=>zu (if neg then .neq else .eql) (ρ x) (ρ y)
 | some .string=>zu (if neg then .neq else .eql) (ρ x) (ρ y)
 | some (.struct _)=>match zbhf P t with | some ks=>zer neg (zpt ks (ρ x) (ρ y)) | none=>none
 | _=>match nkT P t with
  | some nk=>if zvy nk y then zer neg (zef nk (ρ x)) else if zvy nk x then zer neg (zef nk (ρ y)) else none
  | none=>none
def optO (ρ:Operand→V):Option Operand→Option V
 | none=>none
 | some x=>some (ρ x)
def zbl4 (P:Program) (ρ:Operand→V) (b:Builtin) (args:List Operand) (ts:List TypeId):Option V :=
 match b,args,ts with
 | .len,[x],[t]=>match P.underlying t with
  | some .string=>match ρ x with | .string s=>some (i64 s.size) | _=>none
  | some (.slice _)=>match ρ x with | .slice _ n _=>some (i64 n) | _=>none
  | some (.array n _)=>some (i64 n)
  | _=>none
 | .cap,[x],[t]=>match P.underlying t with
  | some (.slice _)=>capV (ρ x)
  | _=>none
 | .min,[x,y],_=>minV (ρ x) (ρ y)
 | .max,[x,y],_=>maxV (ρ x) (ρ y)
 | _,_,_=>none
def zx5 (t:TypeId) (z:Option V) (ok:Bool):V→Option V
 | .iface t' v=>if t'=t then some (if ok then .tuple #[v,.bool true] else v) else match ok,z with
  | true,some z=>if zge z=true then some (.tuple #[z,.bool false]) else none
  | _,_=>none
 | .nilIface=>match ok,z with
  | true,some z=>if zge z=true then some (.tuple #[z,.bool false]) else none
  | _,_=>none
 | _=>none
def z2s (P:Program) (ρ:Operand→V):Op→Option V
 | .move x=>some (ρ x)
 | .assign x=>some (ρ x)
 | .pick c a b=>z8 (ρ c) (ρ a) (ρ b)
 | .build t parts=>match P.underlying t,zf5 P t with
  | some (.struct fs),some z=>match zz6 P fs.toList with
   | some pl=>match zyw pl ρ parts.toList with
    | some l=>build z.cells.toList l
    | none=>none
   | none=>none
  | some (.array _ e),some z=>match zfu P e with
   | some n=>build z.cells.toList (zm6 n ρ parts.toList)
   | none=>none
  | _,_=>none
 | .nilCheck x=>zb2 (ρ x)
 | .binOp .eql t x y _=>eqM P false t x y ρ
 | .binOp .neq t x y _=>eqM P true t x y ρ
 | .binOp op _ x y _=>zu op (ρ x) (ρ y)
 | .unOp op _ x=>un op (ρ x)
 | .convert src dst x=>match P.underlying src,P.underlying dst with
  | some (.int _),some (.int k)=>cvi k (ρ x)
  | some .string,some .string=>match ρ x with | .string s=>some (.string s) | _=>none
  | _,_=>none
 | .makeInterface t x=>match P.underlying t with
  | some (.interface _)=>none
  | some _=>some (.iface t (ρ x))
  | none=>none
 | .typeAssert x _ t ok=>match P.underlying t with
  | some (.interface _)=>none
  | some _=>zx5 t (zf5 P t) ok (ρ x)
  | none=>none
 | .makeFunc fn first captured=>some (.func fn (first.map ρ) (captured.map ρ))
 | .slice t x lo hi none=>match P.underlying t with
  | some .string=>subS (ρ x) (optO ρ lo) (optO ρ hi)
  | some (.slice e)=>match zfu P e with | some n=>zh6 n (ρ x) (optO ρ lo) (optO ρ hi) | none=>none
  | some (.array k e)=>match zfu P e with | some n=>subA k n (ρ x) (optO ρ lo) (optO ρ hi) | none=>none
  | _=>none
 | .fieldAddr s x f=>match P.underlying s with
  | some (.struct fs)=>match fs[f]? with
   | some fd=>match zfu P fd.type with | some (_ + 1)=>zf fd.offset (ρ x) | _=>none
   | none=>none
  | _=>none
 | .field t x f=>match P.underlying t with
  | some (.struct fs)=>match fs[f]? with
   | some fd=>match tk P fd.type with | some .one=>fld1 fd.offset (ρ x) | some (.agg n)=>fldn fd.offset n (ρ x) | none=>none
   | none=>none
  | _=>none
 | .indexAddr t x i=>match P.underlying t with
  | some (.slice e)=>match zfu P e with | some n=>zr n (ρ x) (ρ i) | none=>none
  | some (.array k e)=>match zfu P e with | some n=>zn5 k n (ρ x) (ρ i) | none=>none
  | _=>none
 | .index t x i=>match P.underlying t with
  | some .string=>zjm (ρ x) (ρ i)
  | some (.array k e)=>match tk P e with | some .one=>zb31 k (ρ x) (ρ i) | some (.agg n)=>zb32 k n (ρ x) (ρ i) | none=>none
  | _=>none
 | .extract t i=>ext i (ρ t)
 | .call c=>match c.callee with
  | .builtin b=>zbl4 P ρ b c.args.toList c.argTypes.toList
  | _=>none
 | _=>none
def zbl5 (P:Program) (ρ:Operand→V) (b:Builtin) (args:List Operand) (ts:List TypeId):M V :=
 match b,args,ts with
 | .len,[x],[t]=>match P.underlying t with
  | some (.map _ _)=>lenM (ρ x)
  | _=>fail
 | _,_,_=>fail
def zbfw (P:Program) (ρ:Operand→V):Op→M V
 | .load t a=>match tk P t with | some .one=>zz (ρ a) | some (.agg n)=>ldn n (ρ a) | none=>fail
 | .convert src dst x=>match P.underlying src,P.underlying dst with
  | some (.slice e),some .string=>match P.underlying e with | some (.int .u8)=>b2s (ρ x) | _=>fail
  | _,_=>fail
 | .lookup t m k ok=>match P.underlying t with
  | some (.map kt et)=>match zf5 P et,z8c P kt with | some z,some kk=>lookup kk z ok (ρ m) (ρ k) | _,_=>fail
  | _=>fail
 | .call c=>match c.callee with
  | .builtin b=>zbl5 P ρ b c.args.toList c.argTypes.toList
  | _=>fail
 | _=>fail
def actB (P:Program) (ρ:Operand→V) (b:Builtin) (args:List Operand) (ts:List TypeId):M V :=
 match b,args,ts with
 | .append,[s,x],[t,u]=>match P.underlying t with
  | some (.slice e)=>match zfu P e,zn7 P e,zf5 P e with
   | some n,some by_,some z=>if z.cells.size=n∧0 < n∧0 < by_ then
     (match P.underlying u with
     | some (.slice _)=>zd0 n by_ (ρ s) (ρ x)
     | some .string=>if n=1∧by_=1 then appS (ρ s) (ρ x) else fail
     | some (.int _)=>appZ n by_ z.cells.toList (ρ s) (ρ x)
     | _=>fail) else fail
   | _,_,_=>fail
  | _=>fail
 | .copy,[d,x],[t,_]=>match P.underlying t with
  | some (.slice e)=>match zfu P e with | some n=>cpy n (ρ d) (ρ x) | none=>fail
  | _=>fail
 | .delete,[m,k],[t,_]=>match P.underlying t with
  | some (.map kt _)=>match z8c P kt with | some kk=>zbs1 kk (ρ m) (ρ k) | none=>fail
  | _=>fail
 | _,_,_=>fail
def bldT (P:Program) (t:TypeId):Bool:=match zf5 P t with
 | some z=>match z.cells.toList with
  | [.pointer none,.slice none 0 0]=>true
  | _=>false
 | none=>false
def actM (P:Program) (ρ:Operand→V):Op→M V
 | .alloc e=>match zf5 P e with | some z=>newc z.cells.toList | none=>fail
 | .box t x=>match bldT P t with | true=>bldM t (ρ x) | false=>zdc (ρ x)
 | .buildSlice t len parts=>match P.underlying t with
  | some (.slice e)=>match zfu P e,zf5 P e with
   | some n,some z=>if len * n≤16777216∧z.cells.size=n∧0 < n then zcc n len (rep len z.cells.toList) (zm6 n ρ parts.toList) else fail
   | _,_=>fail
  | _=>fail
 | .store t a x=>match tk P t with | some .one=>st1 (ρ a) (ρ x) | some (.agg n)=>stn n (ρ a) (ρ x) | none=>fail
 | .convert src dst x=>match P.underlying src,P.underlying dst with
  | some .string,some (.slice e)=>match P.underlying e with | some (.int .u8)=>s2b (ρ x) | _=>fail
  | _,_=>fail
 | .makeMap _ none=>zvw
 | .makeMap t (some h)=>match P.underlying t,ρ h with | some (.map _ _),.int _ _=>zvw | _,_=>fail
 | .makeSlice t l c=>match P.underlying t with
  | some (.slice e)=>match zfu P e,zn7 P e,zf5 P e with
   | some n,some by_,some z=>if z.cells.size=n∧0 < n then zul n by_ z.cells.toList (ρ l) (ρ c) else fail
   | _,_,_=>fail
  | _=>fail
 | .mapUpdate t m k v=>match P.underlying t with
  | some (.map kt _)=>match z8c P kt with | some kk=>zgm kk (ρ m) (ρ k) (ρ v) | none=>fail
  | _=>fail
 | .insert t m k v=>match P.underlying t with
  | some (.map kt _)=>match z8c P kt with | some kk=>zgm kk (ρ m) (ρ k) (ρ v) | none=>fail
  | _=>fail
 | .call c=>match c.callee with
  | .builtin b=>actB P ρ b c.args.toList c.argTypes.toList
  | _=>fail
 | _=>fail
inductive Cls where
 | mv | pure | read | act | call
 deriving DecidableEq
def cls (P:Program):Op→Cls
 | .move _ | .assign _ => .mv
 | .load _ _ | .lookup _ _ _ _ => .read
 | .convert src dst _=>match P.underlying src,P.underlying dst with
  | some (.slice _),some .string => .read
  | some .string,some (.slice _) => .act
  | _,_ => .pure
 | .alloc _ | .box _ _ | .buildSlice _ _ _ | .store _ _ _ | .makeMap _ _ | .makeSlice _ _ _ | .mapUpdate _ _ _ _ | .insert _ _ _ _ => .act
 | .call c=>match c.callee with
  | .value _ => .call
  | .invoke _ _ => .call
  | .builtin .append => .act
  | .builtin .copy => .act
  | .builtin .delete => .act
  | .builtin .len=>match c.argTypes.toList with
   | [t]=>match P.underlying t with
    | some (.map _ _) => .read
    | _ => .pure
   | _ => .pure
  | _ => .pure
 | _ => .pure
abbrev Env:=Nat→V
def Env.put (n:Nat) (e:Env) (d:Option Nat) (v:V):Env:=match d with
 | none=>e
 | some d=>bif Nat.blt d n then (fun i=>bif Nat.beq i d then v else e i) else e
def evO (P:Program) (e:Env):Operand→V
 | .tmp t=>e t
 | .const v=>bif zge v then v else undef
 | .global g=>bif Nat.blt g P.globals.size then ptr g 0 else undef
 | .func f => .func (.func f) #[] #[]
abbrev zx:=Nat→List V→M V
def znw (σ:zx) (f:V) (args:List V):M V:=match f with
 | .func (.func g) x y=>σ g (x.toList ++ (args ++ y.toList))
 | _=>fail
def zbyk:TypeDesc→Bool
 | .pointer _=>true
 | _=>false
def zbyl (P:Program) (t:TypeId) (name:String):Option FuncId:=match P.info? t,P.underlying t with
 | some i,some u=>match i.methods.find? (·.name == name) with
  | some m=>match m.func with
   | some (f,pr)=>if (m.path.isEmpty && zbyk u == pr)=true then some f else none
   | none=>none
  | none=>none
 | _,_=>none
def invG (P:Program) (v:V) (name:String):Option (FuncId × V):=match v with
 | .iface t x=>(zbyl P t name).map fun g=>(g,x)
 | _=>none
def invM (P:Program) (σ:zx) (v:V) (name:String) (args:List V):M V:=Option.elim (invG P v name) fail fun p=>σ p.1 (p.2 :: args)
def zbad (P:Program) (e:Env):List Operand→List V
 | []=>[]
 | x :: xs=>evO P e x :: zbad P e xs
def zum (P:Program) (σ:zx) (e:Env) (o:Op):M V :=
 match cls P o with
 | .mv | .pure=>za (z2s P (evO P e) o)
 | .read=>zbfw P (evO P e) o
 | .act=>actM P (evO P e) o
 | .call=>match o with
  | .call c=>match c.callee with
   | .value f=>znw σ (evO P e f) (zbad P e c.args.toList)
   | .invoke x name=>invM P σ (evO P e x) name (zbad P e c.args.toList)
   | _=>fail
  | _=>fail
abbrev zqm:V := .chan none
def gd (g:V) (want:Bool) (m:M V):M V:=match g with
 | .bool b=>if b == want then m else ret zqm
 | .tuple vs=>if vs.isEmpty then fail else ret zqm
 | _=>ret zqm
def zc6 (ops:Array Oper) (o:Oper):Option (Option (Nat × Bool)):=match o.guard with
 | none=>some none
 | some (j,want)=>match ops[j]? with
  | some oj=>match oj.dst with | some d=>some (some (d,want)) | none=>none
  | none=>none
def gdM (P:Program) (σ:zx) (ops:Array Oper) (o:Oper) (e:Env):M V:=match zc6 ops o with
 | none=>fail
 | some none=>zum P σ e o.op
 | some (some (d,want))=>gd (e d) want (zum P σ e o.op)
def z08 (o:Oper):Option Operand:=match o.guard,o.op with
 | none,.move x=>some x
 | none,.assign x=>some x
 | _,_=>none
def zbeh {R:Type} (P:Program) (σ:zx) (n:Nat) (ops:Array Oper):List Oper→Env→(Env→M R)→M R
 | [],e,k=>k e
 | o :: rest,e,k=>match z08 o with
  | some x=>zbeh P σ n ops rest (e.put n o.dst (evO P e x)) k
  | none=>zb (gdM P σ ops o e) fun v=>zbeh P σ n ops rest (e.put n o.dst v) k
def zun (id:Nat) (v:V):V:=match v with
 | .pointer (some ⟨_,o,s⟩) => .pointer (some ⟨id,o,s⟩)
 | .slice (some ⟨_,o,s⟩) l c => .slice (some ⟨id,o,s⟩) l c
 | .map (some _) => .map (some id)
 | v=>v
def flt (id:Nat) (m:M V):M V:=fun H=>match m Heap.none0 with
 | some (v,K)=>match K.one? with
  | some x=>match H.get id with
   | none=>bif Nat.blt id H.next then some (zun id v,H.set id (some x)) else none
   | some _=>none
  | none=>none
 | none=>none
def isMk (P:Program):Op→Bool
 | .alloc _ | .box _ _ | .buildSlice _ _ _ | .makeSlice _ _ _ | .makeMap _ _=>true
 | .convert src dst x=>match cls P (.convert src dst x) with | .act=>true | _=>false
 | _=>false
inductive KD where
 | quiet | read | chain
 | float (j:Nat)
def zx6 (l:List Nat) (i:Nat):Option Nat:=match l with
 | []=>none
 | x :: xs=>bif Nat.beq x i then some 0 else match zx6 xs i with | some j=>some (j + 1) | none=>none
def zd2 (P:Program) (fl:List Nat) (i:Nat) (o:Oper):KD:=match zx6 fl i with
 | some j => .float j
 | none=>match cls P o.op with
  | .mv | .pure => .quiet
  | .read => .read
  | .act | .call => .chain
structure Tr where
 i:Nat
 o:Oper
 kd:KD
 env:Env
 H:Heap
 v:V
 H':Heap
def zbu1 (P:Program) (σ:zx) (ops:Array Oper) (base:Nat) (kd:KD) (o:Oper) (e:Env):M V:=match kd with
 | .float j=>match o.guard with
  | none=>bif isMk P o.op then flt (base + j) (actM P (evO P e) o.op) else fail
  | some _=>fail
 | _=>gdM P σ ops o e
def kept (fl:List Nat) (base:Nat):List Nat→List Nat
 | []=>[]
 | i :: rest=>match zx6 fl i with | some j=>(base + j) :: kept fl base rest | none=>kept fl base rest
def zdq (H:Heap):List Nat→Bool
 | []=>true
 | b :: bs=>(match H.get b with | none=>Nat.blt b H.next | some _=>false) && zdq H bs
def zvz (kd:KD) (H H':Heap) (l:List Nat):Bool:=match kd with
 | .chain=>zdq H l && zdq H' l
 | _=>true
def runD {R:Type} (P:Program) (σ:zx) (n:Nat) (ops:Array Oper) (fl:List Nat) (base:Nat):List Nat→Env→List Tr→(Env→List Tr→M R)→M R
 | [],e,tr,k=>k e tr
 | i :: rest,e,tr,k=>match ops[i]? with
  | none=>fail
  | some o=>match z08 o,zd2 P fl i o with
   | some x,.quiet=>fun H=>runD P σ n ops fl base rest (e.put n o.dst (evO P e x)) (tr ++ [⟨i,o,.quiet,e,H,evO P e x,H⟩]) k H
   | _,kd=>fun H=>match zbu1 P σ ops base kd o e H with
    | some (v,H')=>zdj (zvz kd H H' (kept fl base rest)) (runD P σ n ops fl base rest (e.put n o.dst v) (tr ++ [⟨i,o,kd,e,H,v,H'⟩]) k) H'
    | none=>none
def KD.isChain:KD→Bool | .chain=>true | _=>false
def KD.isRead:KD→Bool | .read=>true | _=>false
def KD.isFloat:KD→Bool | .float _=>true | _=>false
def vEq:V→V→Bool
 | .bool a,.bool b=>a == b
 | .int k a,.int k' b=>decide (k=k') && a == b
 | .string a,.string b=>decide (a=b)
 | .pointer a,.pointer b=>decide (a=b)
 | .slice a l c,.slice b l' c'=>decide (a=b) && l == l' && c == c'
 | .map a,.map b=>decide (a=b)
 | .nilIface,.nilIface=>true
 | .nilFunc,.nilFunc=>true
 | .agg a,.agg b=>vEqs a.toList b.toList
 | .tuple a,.tuple b=>vEqs a.toList b.toList
 | .chan none,.chan none=>true
 | _,_=>false
where
 vEq1:V→V→Bool
 | .bool a,.bool b=>a == b
 | .int k a,.int k' b=>decide (k=k') && a == b
 | .string a,.string b=>decide (a=b)
 | .pointer a,.pointer b=>decide (a=b)
 | .slice a l c,.slice b l' c'=>decide (a=b) && l == l' && c == c'
 | .map a,.map b=>decide (a=b)
 | .nilIface,.nilIface=>true
 | .nilFunc,.nilFunc=>true
 | _,_=>false
 vEqs:List V→List V→Bool
 | [],[]=>true
 | x :: xs,y :: ys=>vEq1 x y && vEqs xs ys
 | _,_=>false
def chk (m:M V) (H:Heap) (v:V):Bool:=match m H with | some (v',_)=>vEq v' v | none=>false
def ancB (bf:Array Nat) (c i:Nat):Bool:=(bf.getD c 0).testBit i
def zx7 (tr:List Tr):List Nat:=match tr with
 | []=>[]
 | s :: rest=>bif s.kd.isChain then s.i :: zx7 rest else zx7 rest
def z7r (tr:List Tr):List Heap:=match tr with
 | []=>[]
 | s :: rest=>bif s.kd.isChain then s.H' :: z7r rest else z7r rest
def z09 (bf:Array Nat) (chain:List Nat) (i k:Nat):Bool:=(chain.take k).all (fun c=>!ancB bf c i) && (chain.drop k).all (fun c=>!ancB bf i c)
def z7s {R:Type} (P:Program) (σ:zx) (ops:Array Oper) (bf:Array Nat) (chain:List Nat) (s:Tr) (own:Nat):Nat→List Heap→M R→M R
 | _,[],m=>m
 | k,H :: Hs,m=>bif (!Nat.beq k own && z09 bf chain s.i k) then zdj (chk (gdM P σ ops s.o s.env) H s.v) (z7s P σ ops bf chain s own (k + 1) Hs m) else z7s P σ ops bf chain s own (k + 1) Hs m
def zbei {R:Type} (P:Program) (σ:zx) (ops:Array Oper) (bf:Array Nat) (chain:List Nat) (vers:List Heap):Nat→List Tr→M R→M R
 | _,[],m=>m
 | own,s :: rest,m =>
  bif s.kd.isChain then zbei P σ ops bf chain vers (own + 1) rest m else
  bif s.kd.isRead then z7s P σ ops bf chain s own 0 vers (zbei P σ ops bf chain vers own rest m) else zbei P σ ops bf chain vers own rest m
def zbhi (o:Oper):List Nat:=o.op.operands.toList.filterMap fun | .tmp t=>some t | _=>none
def zbfx (ops:Array Oper) (o:Oper):List Nat:=match zc6 ops o with
 | some (some (d,_))=>d :: zbhi o
 | _=>zbhi o
def zbbz (ops:Array Oper) (x y:Oper):Bool :=
 (match x.dst with | some d=>(zbfx ops y).contains d || (match y.dst with | some e=>Nat.beq d e | none=>false) | none=>false) ||
 (match y.dst with | some d=>(zbfx ops x).contains d | none=>false)
def zbs2 (P:Program) (ops:Array Oper) (bf:Array Nat) (fl:List Nat) (i j:Nat):Bool:=match ops[i]?,ops[j]? with
 | some x,some y =>
  (!zbbz ops x y || ancB bf j i) &&
  (match zd2 P fl i x,zd2 P fl j y with
   | .chain,.chain=>ancB bf j i
   | .float _,.chain=>ancB bf j i
   | _,_=>true)
 | _,_=>false
def z35 (P:Program) (ops:Array Oper) (fl:List Nat):Bool→List Nat→Bool
 | _,[]=>true
 | fresh,i :: rest=>match ops[i]? with
  | none=>false
  | some o=>match zd2 P fl i o with
   | .chain=>z35 P ops fl true rest
   | .float _=>z35 P ops fl false rest
   | .read=>fresh && z35 P ops fl fresh rest
   | .quiet=>z35 P ops fl fresh rest
def zbb0 (P:Program) (ops:Array Oper) (bf:Array Nat) (fl:List Nat):List Nat→List Nat→Bool
 | _,[]=>true
 | done,j :: rest=>match ops[j]? with
  | none=>false
  | some o=>!done.contains j && o.after.toList.all (fun e=>!Region.binds .any e || done.contains e.on) && (match o.op with | .select _ _=>false | _=>true) && done.all (fun i=>zbs2 P ops bf fl i j) && zbb0 P ops bf fl (j :: done) rest
def zbyn:List Nat→Bool
 | []=>true
 | x :: xs=>!xs.contains x && zbyn xs
def okD (P:Program) (ops:Array Oper) (perm fl:List Nat):Bool :=
 P.follows .mixedOrders && (List.range ops.size).all (fun i=>perm.contains i) && zbb0 P ops (Region.before ops) fl [] perm && z35 P ops fl true perm && zbyn fl && fl.all (fun i=>perm.contains i)
def zuy (H:Heap):Nat→Heap
 | 0=>H
 | m + 1=>zuy (H.push none) m
def regD {R:Type} (P:Program) (σ:zx) (n:Nat) (ops:Array Oper) (perm fl:List Nat) (e:Env) (k:Env→M R):M R:=fun H =>
 bif okD P ops perm fl then
  runD P σ n ops fl H.next perm e [] (fun e' tr=>zbei P σ ops (Region.before ops) (zx7 tr) (zuy H fl.length :: z7r tr) 0 tr (k e')) (zuy H fl.length)
 else none
inductive Out where
 | nxt (vs:List V)
 | brk (id:Nat) (vs:List V)
 | ret (vs:List V)
def zv0 (l:List Nat) (e:Env):List V:=match l with | []=>[] | x :: xs=>e x :: zv0 xs e
def z1a (l:List Nat) (j:Nat) (vs:List V) (i:Nat):V:=match l with
 | []=>undef
 | x :: xs=>bif Nat.beq i x then vs.getD j undef else z1a xs (j + 1) vs i
def z36 (l:List Nat) (vs:List V):Env:=z1a l 0 vs
def zbm:Nat:=1152921504606846976
def zba:Nat→(List V→M Out)→List V→M Out
 | 0,_,_=>fail
 | n + 1,body,vs=>zb (body vs) fun o=>match o with
  | .nxt vs'=>zba n body vs'
  | o=>ret o
def nx (o:Out) (k:List V→M Out):M Out:=match o with
 | .nxt vs=>k vs
 | o=>ret o
def zv (id:Nat) (o:Out):Out:=match o with
 | .brk id' vs=>bif Nat.beq id' id then .nxt vs else .brk id' vs
 | o=>o
def zp (c:V) (a b:M Out):M Out:=match c with
 | .bool true=>a
 | .bool false=>b
 | _=>fail
end Go.AM
