import Derived.Test.YtjchglndancedaaGreatDoorAmSlc
import Derived.WideKeyArgs
import Derived.ChangeSame
import Derived.OpenShut
import Derived.LaidSub
import Derived.ChangeMaps5
import Derived.Lib.LaidTab
import Derived.Deep.Slices
set_option linter.all false
/- Heaps that are written out: what a block holds is told by rules. -/
namespace Go.AM
namespace Heap
theorem get_push_eq {H:Heap} {x:Option Blk} {b:Nat} (h:b=H.next):(H.push x).get b=x:=by subst h;exact get_push_self H x
theorem get_set_eq {H:Heap} {b:Nat} {x:Option Blk} (h:b < H.next):(H.set b x).get b=x:=get_set_self h
theorem get_set_ne' {H:Heap} {b c:Nat} {x:Option Blk} (h:c≠b):(H.set b x).get c=H.get c:=get_set_ne _ _ _ h
theorem set_push_lt {H:Heap} {x y:Option Blk} {b:Nat} (h:b < H.next):(H.push x).set b y=(H.set b y).push x:=by
 refine Heap.same rfl fun c _=>?_
 rw[z1j,Heap.get_push,Heap.get_push,z1j]
 have e1:(H.push x).next=H.next + 1:=rfl
 have e2:(H.set b y).next=H.next:=rfl
 rw[e1,e2]
 by_cases q:c=b
 ·subst q;rw[if_pos ⟨rfl,by omega⟩,if_neg (by omega),if_pos ⟨rfl,h⟩]
 ·rw[if_neg (fun z=>q z.1)]
  by_cases q2:c=H.next
  ·rw[if_pos q2,if_pos q2]
  ·rw[if_neg q2,if_neg q2,if_neg (fun z=>q z.1)]
theorem set_push_eq {H:Heap} {x y:Option Blk} {b:Nat} (h:b=H.next):(H.push x).set b y=H.push y:=by
 subst h
 refine Heap.same rfl fun c _=>?_
 rw[z1j,Heap.get_push,Heap.get_push]
 have e1:(H.push x).next=H.next + 1:=rfl
 rw[e1]
 by_cases q:c=H.next
 ·rw[if_pos ⟨q,by omega⟩,if_pos q]
 ·rw[if_neg (fun z=>q z.1),if_neg q,if_neg q]
end Heap
def zdk:Option Blk→Nat→Option V
 | some (.cells _ cs),o=>cs[o]?
 | _,_=>none
theorem zbj (H:Heap) (b o:Nat):ztr H (ptr b o)=zdk (H.get b) o:=by
 simp only[ztr,Heap.cell]
 split <;> simp_all [zdk]
theorem zpz (rw:Bool) (cs:List V) (o:Nat):zdk (some (.cells rw cs)) o=cs[o]? := rfl
def stG (x:Option Blk) (o:Nat) (v:V) (k:Option Blk→Prop):Prop:=match x with
 | some (.cells true cs)=>v.isOne=true∧o < cs.length∧k (some (.cells true (cs.set o v)))
 | _=>False
theorem zo (H:Heap) (b o:Nat) (v:V) {Q:V→Heap→Prop}:wp (st1 (ptr b o) v) Q H↔stG (H.get b) o v fun y=>Q undef (H.set b y):=by
 unfold stG
 constructor
 ·rintro⟨a,H',h1,h2⟩
  simp only[st1] at h1
  split at h1
  ·rename_i cs hg
   rw[hg]
   split at h1
   ·rename_i hc
    cases h1
    simp only[Bool.and_eq_true,decide_eq_true_eq] at hc
    exact⟨hc.1,hc.2,h2⟩
   ·cases h1
  ·cases h1
 ·intro h
  split at h
  ·rename_i cs hg
   exact (zby7 hg h.1 h.2.1).mpr h.2.2
  ·exact h.elim
@[congr] theorem zb5a {x x':Option Blk} {o:Nat} {v:V} {k:Option Blk→Prop} (h:x=x'):stG x o v k=stG x' o v k:=by rw[h]
theorem zbnc {cs:List V} {o:Nat} {v:V} {k:Option Blk→Prop} (ho:o < cs.length):stG (some (.cells true cs)) o v k↔(v.isOne=true∧k (some (.cells true (cs.set o v)))):=by simp[stG,ho]
def stnG (x:Option Blk) (n o:Nat) (v:V) (k:Option Blk→Prop):Prop:=match x,v with
 | some (.cells true cs),.agg vs=>vs.toList.all Value.isOne=true∧vs.toList.length=n∧o + n≤cs.length∧k (some (.cells true (splice cs o vs.toList)))
 | _,_=>False
theorem zp (H:Heap) (b o n:Nat) (v:V) {Q:V→Heap→Prop}:wp (stn n (ptr b o) v) Q H↔stnG (H.get b) n o v fun y=>Q undef (H.set b y):=by
 unfold stnG
 constructor
 ·rintro⟨a,H',h1,h2⟩
  simp only[stn] at h1
  split at h1
  ·rename_i b' o' vs hp
   cases hp
   split at h1
   ·rename_i cs hg
    rw[hg]
    split at h1
    ·rename_i hc
     cases h1
     simp only[Bool.and_eq_true,decide_eq_true_eq,beq_iff_eq] at hc
     exact⟨hc.1.1,hc.1.2,hc.2,h2⟩
    ·cases h1
   ·cases h1
  ·cases h1
 ·intro h
  split at h
  ·rename_i cs vs hg
   refine⟨undef,_,?_,h.2.2.2⟩
   simp only[stn,hg]
   rw[if_pos (by simp[h.1,h.2.1,h.2.2.1])]
  ·exact h.elim
@[congr] theorem zb4m {x x':Option Blk} {n o:Nat} {v:V} {k:Option Blk→Prop} (h:x=x'):stnG x n o v k=stnG x' n o v k:=by rw[h]
theorem z22 {cs vs:List V} {n o:Nat} {k:Option Blk→Prop} (hv:vs.all Value.isOne=true) (hn:vs.length=n) (ho:o + n≤cs.length):stnG (some (.cells true cs)) n o (.agg vs.toArray) k↔k (some (.cells true (splice cs o vs))):=by simp[stnG,hv,hn,ho]
def ldG (x:Option Blk) (n o:Nat) (k:V→Prop):Prop:=match x with
 | some (.cells _ cs)=>o + n≤cs.length∧k (.agg ((cs.drop o).take n).toArray)
 | _=>False
theorem zbh (H:Heap) (b o n:Nat) {Q:V→Heap→Prop}:wp (ldn n (ptr b o)) Q H↔ldG (H.get b) n o fun y=>Q y H:=by
 unfold ldG
 constructor
 ·rintro⟨a,H',h1,h2⟩
  simp only[ldn,cellsAt] at h1
  split at h1
  ·rename_i l hl
   cases h1
   split at hl
   ·rename_i rw cs hg
    rw[hg]
    split at hl
    ·rename_i hc;cases hl;exact⟨hc,h2⟩
    ·cases hl
   ·cases hl
  ·cases h1
 ·intro h
  split at h
  ·rename_i rw cs hg
   exact (zbt9 hg h.1).mpr h.2
  ·exact h.elim
@[congr] theorem zb5c {x x':Option Blk} {n o:Nat} {k:V→Prop} (h:x=x'):ldG x n o k=ldG x' n o k:=by rw[h]
theorem zpc {rw:Bool} {cs:List V} {n o:Nat} {k:V→Prop} (ho:o + n≤cs.length):ldG (some (.cells rw cs)) n o k↔k (.agg ((cs.drop o).take n).toArray):=by simp[ldG,ho]
theorem z52 {cs:List V} {H:Heap} {Q:V→Heap→Prop} (h:cs.all zgb=true):wp (newc cs) Q H↔Q (ptr H.next 0) (H.push (some (.cells true cs))):=zo5 h
theorem zby {vs:List V} {H:Heap} {Q:V→Heap→Prop} (h:vs.all Value.isOne=true):wp (zdf (.agg vs.toArray)) Q H↔Q (ptr H.next 0) (H.push (some (.cells true vs))):=by
 have hc:(Value.agg vs.toArray).cells.toList=vs:=by simp[Value.cells]
 constructor
 ·rintro⟨a,H',h1,h2⟩
  unfold zdf at h1
  rw[hc,if_pos h] at h1
  cases h1;exact h2
 ·intro hq;exact⟨_,_,by unfold zdf;rw[hc,if_pos h],hq⟩
theorem zbij {v:V} {H:Heap} {Q:V→Heap→Prop} (h:v.isOne=true):wp (zdf v) Q H↔Q (ptr H.next 0) (H.push (some (.cells true [v]))):=by
 have hc:v.cells.toList=[v]:=by rw[z9b h]
 constructor
 ·rintro⟨a,H',h1,h2⟩
  unfold zdf at h1
  rw[hc] at h1
  rw[if_pos (by simp[h])] at h1
  cases h1;exact h2
 ·intro hq;exact⟨_,_,by unfold zdf;rw[hc,if_pos (by simp[h])],hq⟩
theorem z1p (off:Nat) (vs:List V):fld1 off (.agg vs.toArray)=vs[off]? := by simp[fld1]
theorem z1q {off n:Nat} {vs:List V} (h:off + n≤vs.length):fldn off n (.agg vs.toArray)=some (.agg ((vs.drop off).take n).toArray):=by simp[fldn,h]
theorem zie (i:Nat) (vs:List V):ext i (.tuple vs.toArray)=vs[i]? := by simp[ext]
section
variable {α:Type} [DecidableEq α] {x y:α} {p:Prop} [Decidable p]
theorem z1r {a b:M Out} (h:p):zn (.bool (decide (¬ p))) a b=b:=by simp[h]
theorem zwj {a b:M Out} (h:x=y):zn (.bool (decide (x≠y))) a b=b:=by simp[h]
theorem zbgo {m:M V} (h:x=y):gd (.bool (decide (x≠y))) true m=ret zon:=by simp[h]
theorem z9k {m:M V} (h:x=y):gd (.bool (decide (x≠y))) false m=m:=by simp[h]
theorem z1s {a b:V} (h:x=y):zy (.bool (decide (x≠y))) a b=some b:=by simp[h]
end
section
variable {p:Prop} [Decidable p] {Q:Out→Heap→Prop} {QV:V→Heap→Prop} {QQ:V→Prop} {H:Heap}
end
section
variable {c:Bool} {Q:Out→Heap→Prop} {QV:V→Heap→Prop} {QQ:V→Prop} {H:Heap}
end
section
variable {p:Prop} [Decidable p] {Q:Out→Heap→Prop} {QV:V→Heap→Prop} {QQ:V→Prop} {H:Heap}
theorem zk5 {a b:M Out} (h1:p→wp a Q H) (h2:¬ p→wp b Q H):wp (zn (.bool (decide p)) a b) Q H:=by by_cases h:p <;> simp_all
theorem zp0 {m:M V} (h1:p→wp m QV H) (h2:¬ p→QV zon H):wp (gd (.bool (decide p)) true m) QV H:=by by_cases h:p <;> simp_all
theorem znl {m:M V} (h1:p→QV zon H) (h2:¬ p→wp m QV H):wp (gd (.bool (decide p)) false m) QV H:=by by_cases h:p <;> simp_all
theorem zjn {x y:V} (h1:p→QQ x) (h2:¬ p→QQ y):wpO (zy (.bool (decide p)) x y) QQ:=by by_cases h:p <;> simp_all
end
section
variable {c:Bool} {Q:Out→Heap→Prop} {QV:V→Heap→Prop} {QQ:V→Prop} {H:Heap}
theorem zsh {a b:M Out} (h1:c=true→wp a Q H) (h2:c=false→wp b Q H):wp (zn (.bool c) a b) Q H:=by cases c <;> simp_all
theorem z1t {m:M V} (h1:c=true→wp m QV H) (h2:c=false→QV zon H):wp (gd (.bool c) true m) QV H:=by cases c <;> simp_all
theorem zwk {m:M V} (h1:c=true→QV zon H) (h2:c=false→wp m QV H):wp (gd (.bool c) false m) QV H:=by cases c <;> simp_all
theorem zp1 {x y:V} (h1:c=true→QQ x) (h2:c=false→QQ y):wpO (zy (.bool c) x y) QQ:=by cases c <;> simp_all
end
theorem zbud {α:Type} {m:M α} {v:α} (h:∀ H,wp m (fun r H'=>r=v∧H'=H) H):m=ret v:=by
 funext H
 obtain⟨a,H',h1,rfl,rfl⟩:=h H
 exact h1
theorem q_of {Q:V→Heap→Prop} {v v':V} {H:Heap} (h:Q v H) (e:v=v'):Q v' H:=e ▸ h
theorem z1u:zbe [] = .tuple #[]:=rfl
theorem z1v (a b:V):zbe [a,b] = .tuple #[a,b]:=rfl
theorem zsi (a b c:V):zbe [a,b,c] = .tuple #[a,b,c]:=rfl
theorem zwl (a b c d:V):zbe [a,b,c,d] = .tuple #[a,b,c,d]:=rfl
theorem z1w (b o:Nat) (H:Heap) (v:V):chk (zz (ptr b o)) H v=zgm (zdk (H.get b) o) v:=by rw[zb1m,zbj]
theorem zbw {S:List Nat} {H0 H:Heap} {x:Option Blk} (h:Keeps S H0 H):Keeps S H0 (H.push x) :=
 ⟨by have:=h.next;simp;omega,fun b hb hn=>by rw[Heap.get_push_lt (by have:=h.next;omega),h.same b hb hn]⟩
theorem zb1 {S:List Nat} {H0 H:Heap} {b:Nat} {x:Option Blk} (h:Keeps S H0 H) (hb:b∈S∨H0.next≤b):Keeps S H0 (H.set b x) :=
 ⟨by have:=h.next;simp;omega,fun c hc hn=>by
  have:c≠b:=fun e=>by subst e;rcases hb with hb | hb;exact hn hb;omega
  rw[Heap.get_set_ne _ _ _ this,h.same c hc hn]⟩
end Go.AM

/- Slices of one-cell elements, somewhere in a block that one owns. -/
namespace Go.AM
def Seg (H:Heap) (v:V) (l:List V):Prop:=(v = .slice none 0 0∧l=[])∨∃ b o c cs,v=slc b o 1 l.length c∧l.length≤c∧H.get b=some (.cells true cs)∧(l=[]∨(o + l.length≤cs.length∧(cs.drop o).take l.length=l))
theorem Seg.nil (H:Heap):Seg H (.slice none 0 0) [] := .inl ⟨rfl,rfl⟩
theorem Seg.keep {S:List Nat} {H H':Heap} {v:V} {l:List V} (h:Seg H v l) (hk:Keeps S H H') (hn:∀ b∈vb v,b ∉ S):Seg H' v l:=by
 rcases h with h | ⟨b,o,c,cs,rfl,hc,hb,hl⟩
 ·exact .inl h
 ·exact .inr ⟨b,o,c,cs,rfl,hc,hk.get hb (hn b (by simp)),hl⟩
theorem Seg.same {H H':Heap} {v:V} {l:List V} (h:Seg H v l) (hs:∀ b∈vb v,H'.get b=H.get b):Seg H' v l:=by
 rcases h with h | ⟨b,o,c,cs,rfl,hc,hb,hl⟩
 ·exact .inl h
 ·exact .inr ⟨b,o,c,cs,rfl,hc,by rw[hs b (by simp)];exact hb,hl⟩
theorem Seg.len {H:Heap} {v:V} {l:List V} (h:Seg H v l):zt v=some (i64 l.length):=by
 rcases h with⟨rfl,rfl⟩ | ⟨b,o,c,cs,rfl,hc,hb,hl⟩ <;> rfl
theorem Seg.lt {H:Heap} {v:V} {l:List V} (h:Seg H v l):∀ b∈vb v,b < H.next:=by
 rcases h with⟨rfl,rfl⟩ | ⟨b,o,c,cs,rfl,hc,hb,hl⟩
 ·simp
 ·simpa using Heap.get_lt hb
theorem Seg.isOne {H:Heap} {v:V} {l:List V} (h:Seg H v l):v.isOne=true:=by
 rcases h with⟨rfl,rfl⟩ | ⟨b,o,c,cs,rfl,_⟩ <;> rfl
theorem Seg.form {H:Heap} {v:V} {l:List V} (h:Seg H v l):∃ a c,v = .slice a l.length c:=by
 rcases h with⟨rfl,rfl⟩ | ⟨b,o,c,cs,rfl,_⟩
 ·exact⟨_,_,rfl⟩
 ·exact⟨_,_,rfl⟩
theorem Seg.cells {H:Heap} {v:V} {l:List V} (h:Seg H v l):zbr H 1 v=some l:=by
 rcases h with⟨rfl,rfl⟩ | ⟨b,o,c,cs,rfl,hc,hb,hl⟩
 ·rfl
 ·simp only[zbr]
  by_cases h0:l.length=0
  ·rw[if_pos h0,List.eq_nil_of_length_eq_zero h0]
  ·rw[if_neg h0]
   rcases hl with rfl | ⟨h1,h2⟩
   ·simp at h0
   ·simp[cellsAt,hb,h1,h2]
theorem Seg.addr {H:Heap} {v:V} {l:List V} (h:Seg H v l) {k:IntKind} {i:Int} (h0:0≤i) (hi:i < l.length):zq 1 v (.int k i)=some (ptr (slB v) (slO v + i.toNat)):=by
 rcases h with⟨rfl,rfl⟩ | ⟨b,o,c,cs,rfl,_⟩
 ·simp at hi;omega
 ·have:=zbcq (b:=b) (o:=o) (u:=1) (cap:=c) (size:=1) (k:=k) h0 hi
  rw[Nat.mul_one] at this;exact this
theorem Seg.cell {H:Heap} {v:V} {l:List V} (h:Seg H v l) {i:Nat} (hi:i < l.length):ztr H (ptr (slB v) (slO v + i))=l[i]? := by
 rcases h with⟨rfl,rfl⟩ | ⟨b,o,c,cs,rfl,hc,hb,hl⟩
 ·simp at hi
 ·rcases hl with rfl | ⟨h1,h2⟩
  ·simp at hi
  ·show ztr H (ptr b (o + i))=_
   rw[zbgl hb]
   have:((cs.drop o).take l.length)[i]? = l[i]? := by rw[h2]
   rw[List.getElem?_take,if_pos hi,List.getElem?_drop] at this
   exact this
theorem Seg.sub {H:Heap} {v:V} {l:List V} (h:Seg H v l) {lo hi:Option V} {a b:Nat} (hlo:zc8 0 b lo=some a) (hhi:∀ c,l.length≤c→zc8 l.length c hi=some b) (h1:a≤b) (h2:b≤l.length):∃ w,zgs 1 v lo hi=some w∧Seg H w ((l.drop a).take (b - a))∧(∀ x∈vb w,x∈vb v)∧w.isOne=true:=by
 have hlen:((l.drop a).take (b - a)).length=b - a:=by simp;omega
 rcases h with⟨rfl,rfl⟩ | ⟨blk,o,c,cs,rfl,hc,hb,hl⟩
 ·simp only[List.length_nil] at h2 hhi
  have hb0:b=0:=by omega
  subst hb0
  have ha0:a=0:=by omega
  subst ha0
  exact⟨.slice none 0 0,by simp[zgs,hhi 0 (Nat.le_refl _),hlo],.inl ⟨rfl,by simp⟩,fun x hx=>hx,rfl⟩
 ·refine⟨ztn blk o 1 a b c 1,?_,?_,?_,?_⟩
  ·simp only[zgs,hhi c hc,hlo]
   simp
  ·unfold ztn
   split
   ·rename_i hca
    have:b=a:=by omega
    subst this
    refine .inr ⟨blk,o,c - b,cs,by simp,by simp,hb,.inl (by simp)⟩
   ·refine .inr ⟨blk,o + a * 1,c - a,cs,by rw[hlen],by rw[hlen];omega,hb,?_⟩
    rcases hl with rfl | ⟨q1,q2⟩
    ·left;simp
    ·right
     rw[hlen]
     refine⟨by omega,?_⟩
     conv=>rhs;rw[← q2]
     rw[List.drop_take,List.take_take,List.drop_drop,Nat.mul_one]
     congr 1
     omega
  ·unfold ztn;split <;> simp
  ·unfold ztn;split <;> rfl
theorem zm {zero:List V} {parts:List (Nat × Nat × V)} (h:zero.all zgb=true):build zero parts=(zbn zero parts).map fun cs => .agg cs.toArray:=by
 simp only[build,h,if_true]
 cases zbn zero parts <;> rfl
theorem zba (cs:List V):zbn cs []=some cs:=rfl
theorem zd {cs:List V} {off:Nat} {v:V} {rest:List (Nat × Nat × V)} (hv:v.isOne=true) (h:off < cs.length):zbn cs ((off,1,v) :: rest)=zbn (cs.set off v) rest:=by
 have hc:v.cells.toList=[v]:=by rw[z9b hv]
 have hs:v.cells.size=1:=by rw[z9b hv];rfl
 simp only[zbn,hc,hs]
 rw[if_pos (by simp[hv];omega)]
 congr 1
 simp only[splice,List.length_singleton]
 rw[List.set_eq_take_append_cons_drop,if_pos h]
 rfl
theorem zf {cs:List V} {off:Nat} {a:Option Addr} {n c:Nat} {rest:List (Nat × Nat × V)} (h:off < cs.length):zbn cs ((off,1,.slice a n c) :: rest)=zbn (cs.set off (.slice a n c)) rest:=zd rfl h
theorem zg {cs:List V} {off:Nat} {k:IntKind} {n:Int} {rest:List (Nat × Nat × V)} (h:off < cs.length):zbn cs ((off,1,.int k n) :: rest)=zbn (cs.set off (.int k n)) rest:=zd rfl h
theorem zh {cs:List V} {off:Nat} {s:ByteArray} {rest:List (Nat × Nat × V)} (h:off < cs.length):zbn cs ((off,1,.string s) :: rest)=zbn (cs.set off (.string s)) rest:=zd rfl h
theorem zsj {cs:List V} {off:Nat} {b:Bool} {rest:List (Nat × Nat × V)} (h:off < cs.length):zbn cs ((off,1,.bool b) :: rest)=zbn (cs.set off (.bool b)) rest:=zd rfl h
theorem zwm {cs:List V} {off:Nat} {a:Option Addr} {rest:List (Nat × Nat × V)} (h:off < cs.length):zbn cs ((off,1,.pointer a) :: rest)=zbn (cs.set off (.pointer a)) rest:=zd rfl h
theorem zwn {cs:List V} {off:Nat} {a:Option Nat} {rest:List (Nat × Nat × V)} (h:off < cs.length):zbn cs ((off,1,.map a) :: rest)=zbn (cs.set off (.map a)) rest:=zd rfl h
theorem zi {cs vs:List V} {off n:Nat} {rest:List (Nat × Nat × V)} (hv:vs.all Value.isOne=true) (hn:vs.length=n) (h:off + n≤cs.length):zbn cs ((off,n,.agg vs.toArray) :: rest)=zbn (splice cs off vs) rest:=by
 have hc:(Value.agg vs.toArray).cells.toList=vs:=by simp[Value.cells]
 have hs:(Value.agg vs.toArray).cells.size=n:=by simp[Value.cells,hn]
 simp only[zbn,hc,hs]
 rw[if_pos (by simp[hv];omega)]
theorem zbeg (H:Heap):zto H 1=H.push none:=rfl
theorem zbeh (H:Heap):zto H 2=(H.push none).push none:=rfl
theorem zsk (H:Heap):zeo H []=true:=rfl
theorem zts {H:Heap} {b:Nat} {bs:List Nat} (h:H.get b=none) (hl:b < H.next):zeo H (b :: bs)=zeo H bs:=by
 have:Nat.blt b H.next=true:=by simpa[Nat.blt_eq] using hl
 simp[zeo,h,this]
theorem z54 {id size len:Nat} {zero cs:List V} {parts:List (Nat × Nat × V)} {H:Heap} {Q:V→Heap→Prop} (h:H.get id=none) (hl:id < H.next) (hz:zero.all zgb=true) (hf:zbn zero parts=some cs) (hQ:Q (slc id 0 size len len) (H.set id (some (.cells true cs)))):wp (flt id (zcz size len zero parts)) Q H:=by
 have e:zcz size len zero parts Heap.none0=some (slc 0 0 size len len,Heap.one (.cells true cs)):=by
  simp only[zcz,hz,if_true,hf];rfl
 have:Nat.blt id H.next=true:=by simpa[Nat.blt_eq] using hl
 exact⟨_,_,by simp only[flt,e,Heap.one?_one,h,this,cond_true,zwu],hQ⟩
theorem znm {id size bytes n c:Nat} {zero:List V} {k k':IntKind} {H:Heap} {Q:V→Heap→Prop} (h:H.get id=none) (hl:id < H.next) (hz:zero.all zgb=true) (h1:n≤c) (h2:c≤140737488355328) (h3:bytes * c≤140737488355328) (hQ:Q (slc id 0 size n c) (H.set id (some (.cells true (rep c zero))))):wp (flt id (zu0 size bytes zero (.int k n) (.int k' c))) Q H:=by
 have e:zu0 size bytes zero (.int k n) (.int k' c) Heap.none0=some (slc 0 0 size n c,Heap.one (.cells true (rep c zero))):=by
  simp only[zu0]
  rw[if_pos ⟨hz,by omega,by omega,by omega,by rw[← Int.natCast_mul];omega⟩,Int.toNat_natCast,Int.toNat_natCast]
  rfl
 have:Nat.blt id H.next=true:=by simpa[Nat.blt_eq] using hl
 exact⟨_,_,by simp only[flt,e,Heap.one?_one,h,this,cond_true,zwu],hQ⟩
theorem z1x {α:Type} [Flat α] (x:α) (zero:List V) (hz:zero=Flat.enc x):∀ n,rep n zero=zbm (List.replicate n x)
 | 0=>rfl
 | n + 1=>by rw[rep,z1x x zero hz n,List.replicate_succ,zeh,hz]
end Go.AM

/- Maps that are held: their z9a as lists of keys and values. -/
namespace Go.AM
class KeyE (κ:Type) [DecidableEq κ] where
 kk:KK
 enc:κ→V
 eq:∀ a b,zwq kk (enc a) (enc b)=some (decide (a=b))
 fits:∀ a,zo4 kk (enc a)=true
 solid:∀ a,(enc a).isSolid=true
class ValE (ω:Type) where
 enc:ω→V
 solid:∀ a,(enc a).isSolid=true
theorem zbik (a b:Int):(a == b)=decide (a=b):=by by_cases h:a=b <;> simp[h]
instance:KeyE Int:=⟨.one .i,i64,fun a b=>by simp only[zwq,eqK,if_true,zbik],fun _=>rfl,fun _=>rfl⟩
instance:ValE Int:=⟨i64,fun _=>rfl⟩
instance:ValE Bool:=⟨.bool,fun _=>rfl⟩
abbrev pr (a b:Int):V := .agg [i64 a,i64 b].toArray
instance:KeyE (Int × Int):=⟨.agg [.i,.i],fun a=>pr a.1 a.2,fun a b=>by
 simp only[zwq,ze6,zlz,eqK,if_true,zbik]
 by_cases h:a.1=b.1
 ·by_cases h2:a.2=b.2
  ·rw[decide_eq_true h,decide_eq_true h2,decide_eq_true (show a=b from Prod.ext h h2)]
  ·rw[decide_eq_true h,decide_eq_false h2,decide_eq_false (show ¬ a=b from fun e=>h2 (by rw[e]))]
 ·rw[decide_eq_false h,decide_eq_false (show ¬ a=b from fun e=>h (by rw[e]))],fun _=>rfl,fun _=>rfl⟩
theorem kp (a:Int × Int):KeyE.enc a=pr a.1 a.2:=rfl
section
variable {κ ω:Type} [DecidableEq κ] [KeyE κ] [ValE ω]
def zls (e:κ × ω):V × V:=(KeyE.enc e.1,ValE.enc e.2)
def aidx (k:κ):List (κ × ω)→Option Nat
 | []=>none
 | e :: es=>if k=e.1 then some 0 else (aidx k es).map (· + 1)
def zkg (es:List (κ × ω)) (k:κ):Option ω:=match es with
 | []=>none
 | e :: es=>if k=e.1 then some e.2 else zkg es k
def zig (es:List (κ × ω)) (k:κ) (v:ω):List (κ × ω):=match es with
 | []=>[(k,v)]
 | e :: es=>if k=e.1 then (k,v) :: es else e :: zig es k v
def adel (es:List (κ × ω)) (k:κ):List (κ × ω):=match es with
 | []=>[]
 | e :: es=>if k=e.1 then es else e :: adel es k
theorem zbgq (k:κ):∀ es:List (κ × ω),zj8 (KeyE.kk κ) (KeyE.enc k) (es.map zls)=some (aidx k es)
 | []=>rfl
 | e :: es=>by
  have ih:=zbgq k es
  simp only[List.map_cons,zj8,aidx]
  rw[show zwq (KeyE.kk κ) (KeyE.enc k) (zls e).1=some (decide (k=e.1)) from KeyE.eq k e.1]
  by_cases h:k=e.1
  ·simp[h]
  ·rw[decide_eq_false h,if_neg h,ih]
   cases aidx k es <;> rfl
theorem zbgr {k:κ}:∀ {es:List (κ × ω)},aidx k es=none→zkg es k=none∧(∀ v,zig es k v=es ++ [(k,v)])∧adel es k=es
 | [],_=>⟨rfl,fun _=>rfl,rfl⟩
 | e :: es,h=>by
  simp only[aidx] at h
  split at h
  ·cases h
  ·rename_i hk
   have h':aidx k es=none:=by cases hq:aidx k es <;> simp_all
   obtain⟨a,b,c⟩:=zbgr h'
   simp[zkg,zig,adel,hk,a,b,c]
theorem zbgs {k:κ}:∀ {es:List (κ × ω)} {i:Nat},aidx k es=some i→i < es.length∧(∃ v,es[i]? = some (k,v)∧zkg es k=some v)∧(∀ v,zig es k v=es.set i (k,v))∧adel es k=es.eraseIdx i
 | e :: es,i,h=>by
  simp only[aidx] at h
  split at h
  ·rename_i hk
   cases h;subst hk
   exact⟨by simp,⟨e.2,by simp,by simp[zkg]⟩,fun v=>by simp[zig],by simp[adel]⟩
  ·rename_i hk
   cases hq:aidx k es with
   | none=>rw[hq] at h;cases h
   | some j =>
    rw[hq] at h;cases h
    obtain⟨a,⟨v,b1,b2⟩,c,d⟩:=zbgs hq
    exact⟨by simpa using a,⟨v,by simpa using b1,by simp[zkg,hk,b2]⟩,fun v=>by simp[zig,hk,c],by simp[adel,hk,d]⟩
theorem zbgt (k k':κ) (v:ω):∀ es:List (κ × ω),zkg (zig es k v) k'=if k'=k then some v else zkg es k'
 | []=>by simp[zig,zkg]
 | e :: es=>by
  simp only[zig]
  split
  ·rename_i h;subst h
   simp only[zkg]
   split <;> rfl
  ·rename_i h
   simp only[zkg,zbgt k k' v es]
   by_cases h2:k'=e.1
   ·subst h2;rw[if_pos rfl,if_pos rfl,if_neg (fun q=>h q.symm)]
   ·rw[if_neg h2,if_neg h2]
theorem zbrd {k:κ} {v:ω} {x:κ × ω}:∀ {l:List (κ × ω)},x∈zig l k v→x=(k,v)∨x∈l
 | [],h=>by simp[zig] at h;exact .inl h
 | y :: l,h=>by
  simp only[zig] at h
  split at h
  ·rcases List.mem_cons.1 h with q | q
   ·exact .inl q
   ·right;simp[q]
  ·rcases List.mem_cons.1 h with q | q
   ·right;simp[q]
   ·rcases zbrd q with r | r
    ·exact .inl r
    ·right;simp[r]
def MapR (H:Heap) (m:Nat) (es:List (κ × ω)):Prop:=H.get m=some (.map true (es.map zls))
def zzf (x:Option Blk) (kk:KK) (zero:V) (ok:Bool) (k:V):Option V:=match x with
 | some (.map _ es)=>if (zo4 kk k && zgb zero)=true then (match zj8 kk k es with
  | some (some i)=>match es[i]? with | some e=>some (if ok then .tuple #[e.2,.bool true] else e.2) | none=>none
  | some none=>some (if ok then .tuple #[zero,.bool false] else zero)
  | none=>none) else none
 | _=>none
@[congr] theorem zb3l {x x':Option Blk} {kk:KK} {zero:V} {ok:Bool} {k:V} (h:x=x'):zzf x kk zero ok k=zzf x' kk zero ok k:=by rw[h]
theorem zho (H:Heap) (m:Nat) (kk:KK) (zero:V) (ok:Bool) (k:V) {Q:V→Heap→Prop}:wp (lookup kk zero ok (.map (some m)) k) Q H↔wpO (zzf (H.get m) kk zero ok k) fun v=>Q v H:=by
 have e:lookup kk zero ok (.map (some m)) k H=(zzf (H.get m) kk zero ok k).map fun v=>(v,H):=by
  simp only[lookup,zzf,z9a]
  generalize H.get m=x
  by_cases hc:(zo4 kk k && zgb zero)=true
  ·rw[if_pos hc]
   cases x with
   | none=>rfl
   | some x =>
    cases x with
    | map rw es =>
     simp only
     rw[if_pos hc]
     cases zj8 kk k es with
     | none=>rfl
     | some o=>cases o with
      | none=>rfl
      | some i=>simp only;cases es[i]? <;> rfl
    | cells rw cs=>rfl
    | siter s p=>rfl
  ·rw[if_neg hc]
   cases x with
   | none=>rfl
   | some x =>
    cases x with
    | map rw es=>simp only;rw[if_neg hc];rfl
    | cells rw cs=>rfl
    | siter s p=>rfl
 unfold wp wpO
 rw[e]
 cases zzf (H.get m) kk zero ok k with
 | none=>simp
 | some v =>
  constructor
  ·rintro⟨a,H',h1,h2⟩;cases h1;exact⟨_,rfl,h2⟩
  ·rintro⟨a,h1,h2⟩;cases h1;exact⟨_,_,rfl,h2⟩
theorem z9l (rw_:Bool) (es:List (κ × ω)) (zero:V) (hz:zgb zero=true) (k:κ):zzf (some (.map rw_ (es.map zls))) (KeyE.kk κ) zero false (KeyE.enc k)=some ((zkg es k).elim zero ValE.enc):=by
 have hc:(zo4 (KeyE.kk κ) (KeyE.enc k) && zgb zero)=true:=by rw[KeyE.fits,hz];rfl
 simp only[zzf,hc,if_true,zbgq]
 cases ha:aidx k es with
 | none=>simp[(zbgr ha).1]
 | some i =>
  obtain⟨h1,⟨v,h2,h3⟩,_⟩:=zbgs ha
  simp[h2,h3,zls]
def setG (x:Option Blk) (kk:KK) (k v:V) (K:Option Blk→Prop):Prop:=match x with
 | some (.map true es)=>(zo4 kk k && k.isSolid && v.isSolid)=true∧match zj8 kk k es with
  | some (some i)=>K (some (.map true (es.set i (k,v))))
  | some none=>K (some (.map true (es ++ [(k,v)])))
  | none=>False
 | _=>False
@[congr] theorem zb4o {x x':Option Blk} {kk:KK} {k v:V} {K:Option Blk→Prop} (h:x=x'):setG x kk k v K=setG x' kk k v K:=by rw[h]
theorem zw4 (H:Heap) (m:Nat) (kk:KK) (k v:V) {Q:V→Heap→Prop}:wp (zgt kk (.map (some m)) k v) Q H↔setG (H.get m) kk k v fun y=>Q undef (H.set m y):=by
 unfold wp setG zgt
 cases hc:(zo4 kk k && k.isSolid && v.isSolid) with
 | false=>simp;split <;> simp_all
 | true =>
  simp only[if_true]
  cases hg:H.get m with
  | none=>simp
  | some x =>
   cases x with
   | map rw es =>
    cases rw with
    | false=>simp
    | true =>
     simp only[true_and]
     cases zj8 kk k es with
     | none=>simp
     | some o=>cases o with
      | none =>
       constructor
       ·rintro⟨a,H',h1,h2⟩;cases h1;exact h2
       ·intro h;exact⟨_,_,rfl,h⟩
      | some i =>
       constructor
       ·rintro⟨a,H',h1,h2⟩;cases h1;exact h2
       ·intro h;exact⟨_,_,rfl,h⟩
   | cells rw cs=>simp
   | siter s p=>simp
theorem zbei (es:List (κ × ω)) (k:κ) (v:ω) (K:Option Blk→Prop):setG (some (.map true (es.map zls))) (KeyE.kk κ) (KeyE.enc k) (ValE.enc v) K↔K (some (.map true ((zig es k v).map zls))):=by
 have hc:(zo4 (KeyE.kk κ) (KeyE.enc k) && (KeyE.enc k:V).isSolid && (ValE.enc v:V).isSolid)=true:=by rw[KeyE.fits,KeyE.solid,ValE.solid];rfl
 simp only[setG,hc,true_and,zbgq]
 cases ha:aidx k es with
 | none=>rw[(zbgr ha).2.1 v];simp[zls]
 | some i=>rw[(zbgs ha).2.2.1 v];simp[List.map_set,zls]
theorem MapR.keep {S:List Nat} {H H':Heap} {m:Nat} {es:List (κ × ω)} (h:MapR H m es) (hk:Keeps S H H') (hm:m ∉ S):MapR H' m es:=hk.get h hm
theorem MapR.lt {H:Heap} {m:Nat} {es:List (κ × ω)} (h:MapR H m es):m < H.next:=Heap.get_lt h
end
end Go.AM

/- Slices that are copied; makes that float. -/
namespace Go.AM
theorem zbnd {α:Type} [Flat α] {H:Heap} {b n bytes:Nat} {xv:V} {xs:List α} {Q:V→Heap→Prop} (hs:Flat.size α=n) (hb:H.get b=some (.cells true [])) (hx:Sl H xv xs) (hn:xs.length * n≤1000000) (hl:xs.length≤1000000) (hby:bytes≤1000) (hQ:∀ w H',(w=slc b 0 n 0 0∧xs=[]∧H'=H∨w=slc H.next 0 n xs.length xs.length∧H'.get H.next=some (.cells true (zbm xs))∧Keeps [b] H H'∧xs≠[]∧H'.next=H.next + 1)→Q w H'):wp (zc4 n bytes (slc b 0 n 0 0) xv) Q H:=by
 subst hs
 by_cases h0:xs=[]
 ·subst h0
  refine⟨slc b 0 (Flat.size α) 0 0,H,?_,hQ _ _ (.inl ⟨rfl,rfl,rfl⟩)⟩
  rcases hx with⟨rfl,_⟩ | ⟨bb,o,u,c,rfl,_⟩ <;> rfl
 ·have hne:xs.length≠0:=fun h=>h0 (List.eq_nil_of_length_eq_zero h)
  have hc:zbr H (Flat.size α) xv=some (zbm xs):=by
   rcases hx with⟨rfl,e⟩ | ⟨bb,o,u,c,rfl,hc,_,hl2,_⟩
   ·exact absurd e h0
   ·rcases hl2 with e | ⟨rw,cs,hg,q1,q2⟩
    ·exact absurd e h0
    ·simp only[zbr,hne,if_false,cellsAt,hg]
     rw[if_pos q1,q2]
  have hf:∃ a c,xv = .slice a xs.length c:=by
   rcases hx with⟨rfl,e⟩ | ⟨bb,o,u,c,rfl,_⟩
   ·exact absurd e h0
   ·exact⟨_,_,rfl⟩
  obtain⟨a,c,rfl⟩:=hf
  have hlt:=Heap.get_lt hb
  have hone:=zbef xs
  have hel:=zb6 xs
  have hcs0:zbr H (Flat.size α) (slc b 0 (Flat.size α) 0 0)=some []:=rfl
  have hm:xs.length * bytes≤1000000 * 1000:=Nat.mul_le_mul hl hby
  refine⟨slc H.next 0 (Flat.size α) xs.length xs.length,(H.set b none).push (some (.cells true (zbm xs))),?_,hQ _ _ (.inr ⟨rfl,?_,?_,h0,by simp⟩)⟩
  ·simp only[zc4,hc,z1d,hne,if_false,hcs0,zwp,hb,if_true]
   rw[if_pos ⟨by rw[Nat.zero_add];omega,by omega,hone,hel⟩]
   simp
  ·have:=Heap.get_push_self (H.set b none) (some (.cells true (zbm xs)))
   simpa using this
  ·exact⟨by simp,fun c hc hn=>by rw[Heap.get_push_lt (by simpa using hc),Heap.get_set_ne _ _ _ (by simpa using hn)]⟩
theorem z23 {id:Nat} {H:Heap} {Q:V→Heap→Prop} (h:H.get id=none) (hl:id < H.next) (hQ:Q (.map (some id)) (H.set id (some (.map true [])))):wp (flt id zwr) Q H:=by
 have e:zwr Heap.none0=some (.map (some 0),Heap.one (.map true [])):=rfl
 have:Nat.blt id H.next=true:=by simpa[Nat.blt_eq] using hl
 exact⟨_,_,by simp only[flt,e,Heap.one?_one,h,this,cond_true,zwu],hQ⟩
theorem zbcr (n:Nat) (H:Heap):Keeps [] H (zto H n):=⟨by rw[(zwe n H).2];omega,fun b _ _=>(zwe n H).1 b⟩
theorem zbgu {n:Nat} {H:Heap} {b:Nat} (h:H.next≤b):(zto H n).get b=none:=by
 rw[(zwe n H).1]
 cases hg:H.get b with
 | none=>rfl
 | some x=>have:=Heap.get_lt hg;omega
theorem zbgv (n:Nat) (H:Heap):(zto H n).next=H.next + n:=(zwe n H).2
theorem zpd {H:Heap}:∀ {l:List Nat},(∀ b∈l,H.get b=none∧b < H.next)→zeo H l=true
 | [],_=>rfl
 | b :: l,h=>by
  rw[zts (h b (by simp)).1 (h b (by simp)).2]
  exact zpd fun c hc=>h c (by simp[hc])
end Go.AM

/- Own slices of flat things. -/
namespace Go.AM
section
variable {α:Type} [Flat α]
def zi7 (H:Heap) (v:V) (xs:List α):Prop:=(v = .slice none 0 0∧xs=[])∨∃ b,v=slc b 0 (Flat.size α) xs.length xs.length∧H.get b=some (.cells true (zbm xs))
theorem zi7.nil (H:Heap):zi7 H (.slice none 0 0) ([]:List α) := .inl ⟨rfl,rfl⟩
theorem zi7.keep {S:List Nat} {H H':Heap} {v:V} {l:List α} (h:zi7 H v l) (hk:Keeps S H H') (hn:∀ b∈vb v,b ∉ S):zi7 H' v l:=by
 rcases h with h | ⟨b,rfl,hb⟩
 ·exact .inl h
 ·exact .inr ⟨b,rfl,hk.get hb (hn b (by simp))⟩
theorem zi7.keep0 {H H':Heap} {v:V} {l:List α} (h:zi7 H v l) (hk:Keeps [] H H'):zi7 H' v l:=h.keep hk (by simp)
theorem zi7.len {H:Heap} {v:V} {l:List α} (h:zi7 H v l):zt v=some (i64 l.length):=by
 rcases h with⟨rfl,rfl⟩ | ⟨b,rfl,_⟩ <;> rfl
theorem zi7.lt {H:Heap} {v:V} {l:List α} (h:zi7 H v l):∀ b∈vb v,b < H.next:=by
 rcases h with⟨rfl,rfl⟩ | ⟨b,rfl,hb⟩
 ·simp
 ·simpa using Heap.get_lt hb
theorem zi7.isOne {H:Heap} {v:V} {l:List α} (h:zi7 H v l):v.isOne=true:=by
 rcases h with⟨rfl,rfl⟩ | ⟨b,rfl,_⟩ <;> rfl
theorem zi7.sl {H:Heap} {v:V} {l:List α} (h:zi7 H v l):Sl H v l:=by
 rcases h with⟨rfl,rfl⟩ | ⟨b,rfl,hb⟩
 ·exact Sl.nil H
 ·refine .inr ⟨b,0,Flat.size α,l.length,rfl,Nat.le_refl _,Heap.get_lt hb,.inr ⟨true,zbm l,hb,by rw[zb6];omega,?_⟩,.inr rfl⟩
  rw[List.drop_zero,List.take_of_length_le (by rw[zb6];exact Nat.le_refl _)]
theorem z1y {H:Heap} {xs:List α} {n m:Nat} (hs:Flat.size α=n) (hm:xs.length=m):zi7 (H.push (some (.cells true (zbm xs)))) (slc H.next 0 n m m) xs:=by
 subst hs hm;exact .inr ⟨_,rfl,Heap.get_push_self _ _⟩
theorem zbjj {v:V} {xs ys:List α} {n m bytes:Nat} {new:Option (List V)} {H:Heap} {Q:V→Heap→Prop} (hs:Flat.size α=n) (hv:zi7 H v xs) (hm:ys.length=m) (hnew:ys≠[]→new=some (zbm ys)) (hb:(xs.length + m) * bytes≤35184372088832) (hb2:xs.length + m≤35184372088832)
  (hQ:∀ w H',zi7 H' w (xs ++ ys)→Keeps (vb v) H H'→(∀ b∈vb w,b∈vb v∨H.next≤b)→Q w H'):wp (z1d n bytes v m new) Q H:=by
 subst hs hm
 by_cases h0:ys=[]
 ·subst h0
  have hf:∃ x len cap,v = .slice x len cap:=by
   rcases hv with⟨rfl,_⟩ | ⟨b,rfl,_⟩
   ·exact⟨_,_,_,rfl⟩
   ·exact⟨_,_,_,rfl⟩
  obtain⟨x,len,cap,rfl⟩:=hf
  exact⟨_,H,rfl,hQ _ _ (by rw[List.append_nil];exact hv) (Keeps.refl _ _) (fun b hb => .inl hb)⟩
 have hne:ys.length≠0:=fun h=>h0 (List.eq_nil_of_length_eq_zero h)
 rw[hnew h0]
 have hone:=zbef ys
 have hel:=zb6 ys
 rcases hv with⟨rfl,rfl⟩ | ⟨b,rfl,hg⟩
 ·have e1:zbr H (Flat.size α) (.slice none 0 0)=some []:=rfl
  have e2:zwp H (Flat.size α) (.slice none 0 0)=some H:=rfl
  refine⟨slc H.next 0 (Flat.size α) ys.length ys.length,H.push (some (.cells true (zbm ys))),?_,hQ _ _ ?_ (Keeps.push _ _ _) (fun b hb => .inr (by simp at hb;omega))⟩
  ·simp only[List.length_nil,Nat.zero_add] at hb hb2
   simp only[z1d,hne,if_false,e1,e2]
   rw[if_pos ⟨by rw[Nat.zero_add];exact hb,by omega,hone,hel⟩]
   simp
  ·exact z1y rfl (by simp)
 ·have hcs:zbr H (Flat.size α) (slc b 0 (Flat.size α) xs.length xs.length)=some (zbm xs):=by
   simp only[zbr]
   split
   ·rename_i h1;rw[List.eq_nil_of_length_eq_zero h1];rfl
   ·have e:(zbm xs).length=xs.length * Flat.size α:=zb6 xs
    simp only[cellsAt,hg,Nat.zero_add,List.drop_zero]
    rw[if_pos (by omega),List.take_of_length_le (by omega)]
  refine⟨slc H.next 0 (Flat.size α) (xs.length + ys.length) (xs.length + ys.length),(H.set b none).push (some (.cells true (zbm xs ++ zbm ys))),?_,hQ _ _ ?_ ?_ (fun c hc => .inr (by simp at hc;omega))⟩
  ·simp only[z1d,hne,if_false,hcs,zwp,hg,if_true]
   rw[if_pos ⟨hb,hb2,hone,hel⟩]
   simp
  ·rw[← zbrb]
   have:=z1y (H:=H.set b none) (xs:=xs ++ ys) (n:=Flat.size α) (m:=xs.length + ys.length) rfl (by simp)
   simpa using this
  ·exact⟨by simp,fun c hc hn=>by rw[Heap.get_push_lt (by simpa using hc),Heap.get_set_ne _ _ _ (by simpa using hn)]⟩
theorem zbzh {H:Heap} {v:V} {xs:List α} {n:Nat} (hs:Flat.size α=n) (h:Sl H v xs) (hne:xs≠[]):∃ a c,v = .slice a xs.length c∧zbr H n v=some (zbm xs):=by
 subst hs
 rcases h with⟨rfl,e⟩ | ⟨bb,o,u,c,rfl,hc,_,hl2,_⟩
 ·exact absurd e hne
 ·rcases hl2 with e | ⟨rw,cs,hg,q1,q2⟩
  ·exact absurd e hne
  ·refine⟨_,_,rfl,?_⟩
   have hn:xs.length≠0:=fun h=>hne (List.eq_nil_of_length_eq_zero h)
   simp only[zbr,hn,if_false,cellsAt,hg]
   rw[if_pos q1,q2]
theorem z9m {v x:V} {xs ys:List α} {n bytes:Nat} {H:Heap} {Q:V→Heap→Prop} (hs:Flat.size α=n) (hv:zi7 H v xs) (hx:Sl H x ys) (hb:(xs.length + ys.length) * bytes≤35184372088832) (hb2:xs.length + ys.length≤35184372088832)
  (hQ:∀ w H',zi7 H' w (xs ++ ys)→Keeps (vb v) H H'→(∀ b∈vb w,b∈vb v∨H.next≤b)→Q w H'):wp (zc4 n bytes v x) Q H:=by
 by_cases h0:ys=[]
 ·subst h0
  have hf:∃ a c,x = .slice a 0 c:=by
   rcases hx with⟨rfl,_⟩ | ⟨bb,o,u,c,rfl,_⟩
   ·exact⟨_,_,rfl⟩
   ·exact⟨_,_,rfl⟩
  obtain⟨a,c,rfl⟩:=hf
  exact zbjj (ys:=([]:List α)) hs hv rfl (fun h=>absurd rfl h) hb hb2 hQ
 ·obtain⟨a,c,rfl,hc⟩:=zbzh hs hx h0
  exact zbjj hs hv rfl (fun _=>hc) hb hb2 hQ
theorem zbne {v:V} {xs ys:List α} {n m bytes:Nat} {zero:List V} {parts:List (Nat × Nat × V)} {H:Heap} {Q:V→Heap→Prop} (hs:Flat.size α=n) (hv:zi7 H v xs) (hz:zero.all zgb=true) (hf:zbn zero parts=some (zbm ys)) (hm:ys.length=m) (hb:(xs.length + m) * bytes≤35184372088832) (hb2:xs.length + m≤35184372088832)
  (hQ:∀ w H',zi7 H' w (xs ++ ys)→Keeps (vb v) H H'→(∀ b∈vb w,b∈vb v∨H.next≤b)→Q w H'):wp (zcz n m zero parts) (fun x H1=>wp (zc4 n bytes v x) Q H1) H:=by
 subst hm
 refine (zi8 hz hf).mpr ?_
 have hk:=Keeps.push [] H (some (.cells true (zbm ys)))
 refine z9m hs (hv.keep0 hk) (z1y hs rfl).sl hb hb2 fun w H' h1 h2 h3=>hQ w H' h1 ?_ fun b hb=>(h3 b hb).imp id fun q=>by simp at q;omega
 exact⟨by have:=h2.next;simp at this;omega,fun c hc hn=>by rw[h2.same c (by simp;omega) hn,Heap.get_push_lt hc]⟩
end
theorem zbue (l:List (BitVec 8)):zbm l=l.map B:=by
 induction l with
 | nil=>rfl
 | cons x l ih=>rw[zeh,ih];rfl
theorem zbre {v:V} {l:List (BitVec 8)} {H:Heap} {Q:V→Heap→Prop} (hv:zi7 H v l) (hQ:Q (.string (sv l)) H):wp (b2s v) Q H:=by
 refine zb1w (l:=l) ?_ hQ
 rw[← zbue]
 rcases hv with⟨rfl,rfl⟩ | ⟨b,rfl,hg⟩
 ·exact .inl ⟨rfl,rfl⟩
 ·refine .inr ⟨b,?_,hg⟩
  have e:(zbm l).length=l.length:=by rw[zb6];exact Nat.mul_one _
  rw[e];rfl
end Go.AM

/- The rules that a walk always has, as lemmas. -/
namespace Go.AM
theorem zbw9 (cs:List V) (o:Nat) (l:List V):splice cs o l=cs.take o ++ (l ++ cs.drop (o + l.length)):=rfl
def Z1:=And.intro (And.intro (And.intro (And.intro (And.intro (And.intro @zbvo @zbvp) (And.intro @z6 @zvk)) (And.intro (And.intro @zqn @wp_ret) (And.intro @zb38 @zb39))) (And.intro (And.intro (And.intro @zb4a @zbw0) (And.intro @zbw1 @zbw2)) (And.intro (And.intro @zby4 @zby5) (And.intro @zby6 (And.intro @zb1q @zb1r))))) (And.intro (And.intro (And.intro (And.intro @zby9 @zbza) (And.intro @gd_t @gd_f)) (And.intro (And.intro @zb5q @zb5r) (And.intro @zb1e @zb5o))) (And.intro (And.intro (And.intro @zb5p @zb4g) (And.intro @zb4h @zb4i)) (And.intro (And.intro @zb4j @zb1n) (And.intro @zb1o (And.intro @zb5s @zb5t)))))) (And.intro (And.intro (And.intro (And.intro (And.intro @zb1p @zbw5) (And.intro @zbub @zbuc)) (And.intro (And.intro @zbra @zbw4) (And.intro @zbw3 @Nat.zero_add))) (And.intro (And.intro (And.intro @Nat.add_zero @zb4b) (And.intro @zbua @zbog)) (And.intro (And.intro @zby8 @zb1f) (And.intro @zb1g (And.intro @zb1h @i64_in))))) (And.intro (And.intro (And.intro (And.intro @zb1s @zb1t) (And.intro @zb1i @zb1j)) (And.intro (And.intro @zb1k @zb1l) (And.intro @zb1u (And.intro @zb1v @if_true.{1})))) (And.intro (And.intro (And.intro @zb1d @zby3) (And.intro @zb1c @zb10)) (And.intro (And.intro @zb11 @zbzc) (And.intro @zbzd (And.intro @List.getElem?_cons_zero.{0} @List.getElem?_cons_succ.{0}))))))
def ZA:=And.intro (And.intro (And.intro (And.intro (And.intro @Z1 (And.intro @zbj @zpz)) (And.intro (And.intro @zbnc @eq_self.{1}) (And.intro @true_and @z22))) (And.intro (And.intro (And.intro @zpc @z52) (And.intro @zby @Heap.get_push_eq)) (And.intro (And.intro @Heap.get_push_lt @Heap.get_set_eq) (And.intro @Heap.get_set_ne' @Heap.next_push')))) (And.intro (And.intro (And.intro (And.intro @Heap.next_set' @Heap.set_push_lt) (And.intro @Heap.set_push_eq @Heap.set_set)) (And.intro (And.intro @z1p @z1q) (And.intro @zie @z1u))) (And.intro (And.intro (And.intro @z1v @zsi) (And.intro @zwl @z1w)) (And.intro (And.intro @z1k @zwi) (And.intro @z1l @z1m))))) (And.intro (And.intro (And.intro (And.intro (And.intro @z1n @z1o) (And.intro @List.set_cons_zero.{0} @List.set_cons_succ.{0})) (And.intro (And.intro @List.length_cons.{0} @List.length_nil.{0}) (And.intro @List.drop_succ_cons.{0} @List.drop_zero.{0}))) (And.intro (And.intro (And.intro @List.take_succ_cons.{0} @List.take_zero.{0}) (And.intro @List.nil_append.{0} @List.cons_append.{0})) (And.intro (And.intro @zbw9 @zwf) (And.intro @zwg @zsg)))) (And.intro (And.intro (And.intro (And.intro @zpy @zk4) (And.intro @zwh @z1r)) (And.intro (And.intro @zwj @zbgo) (And.intro @z9k @z1s))) (And.intro (And.intro (And.intro @zba @Option.map_some.{0,0}) (And.intro @zbeg @zbeh)) (And.intro (And.intro @zsk @zsj) (And.intro @zwm @zwn)))))
def ZB:=And.intro (And.intro (And.intro @ZA @zbh) (And.intro @zp (And.intro @zo @zm))) (And.intro (And.intro @zi @zf) (And.intro @zg (And.intro @zh @zd)))
theorem Z3:type_of% (And.intro @Heap.next_push' @Heap.next_set'):=And.intro @Heap.next_push' @Heap.next_set'
end Go.AM

/- Slices among the cells of other things. -/
namespace Go.AM
structure In (α:Type) where
 v:V
 xs:List α
 one:v.isOne=true
instance {α:Type}:Inhabited (In α):=⟨⟨.slice none 0 0,[],rfl⟩⟩
instance {α:Type}:Flat (In α):=⟨1,fun a=>[a.v],fun _=>rfl,fun a=>by simp[a.one],by decide⟩
structure Sl2 {α:Type} [Flat α] (H:Heap) (v:V) (xs:List (In α)):Prop where
 out:Sl H v xs
 inn:∀ x∈xs,Sl H x.v x.xs
theorem Sl2.keep0 {α:Type} [Flat α] {H H':Heap} {v:V} {xs:List (In α)} (h:Sl2 H v xs) (hk:Keeps [] H H'):Sl2 H' v xs:=⟨h.out.keep0 hk,fun x hx=>(h.inn x hx).keep0 hk⟩
theorem Sl2.at {α:Type} [Flat α] {H:Heap} {v:V} {xs:List (In α)} (h:Sl2 H v xs) {i:Nat} (hi:i < xs.length):Sl H (xs.getD i default).v (xs.getD i default).xs:=by
 rw[List.getD_eq_getElem?_getD,List.getElem?_eq_getElem hi]
 exact h.inn _ (List.getElem_mem hi)
theorem Sl2.get {α:Type} [Flat α] {H:Heap} {v:V} {xs:List (In α)} (h:Sl2 H v xs) {i:Nat} (hi:i < xs.length):zq 1 v (i64 i)=some (ptr (slB v) (slO v + i))∧ztr H (ptr (slB v) (slO v + i))=some (xs.getD i default).v:=by
 have h1:=h.out.addr1 rfl (k := .i64) (i:=i) (by omega) (by omega)
 rw[Int.toNat_natCast] at h1
 exact⟨h1,by rw[h.out.cell1 rfl hi default];rfl⟩
end Go.AM

/- Things on the heap that lie apart from each other. -/
namespace Go.AM
structure Thing where
 fp:List Nat
 P:Heap→Prop
 loc:∀ {H H':Heap},H.next≤H'.next→(∀ b∈fp,H'.get b=H.get b)→P H→P H'
 lt:∀ {H:Heap},P H→∀ b∈fp,b < H.next
def cel (d:Nat) (cs:List V):Thing:=⟨[d],fun H=>H.get d=some (.cells true cs),fun _ h p=>by rw[h d (by simp)];exact p,fun p b hb=>by simp at hb;subst hb;exact Heap.get_lt p⟩
def own {α:Type} [Flat α] (v:V) (xs:List α):Thing :=
 ⟨vb v,fun H=>zi7 H v xs,fun _ h p=>by
  rcases p with p | ⟨b,rfl,hb⟩
  ·exact .inl p
  ·exact .inr ⟨b,rfl,by rw[h b (by simp)];exact hb⟩,fun p=>p.lt⟩
def view {α:Type} [Flat α] (v:V) (xs:List α):Thing :=
 ⟨vb v,fun H=>Sl H v xs,fun hn h p=>by
  rcases p with p | ⟨b,o,u,c,rfl,hc,hb,hl,hu⟩
  ·exact .inl p
  ·refine .inr ⟨b,o,u,c,rfl,hc,by omega,?_,hu⟩
   rw[h b (by simp)];exact hl,fun p b hb=>by
  rcases p with⟨rfl,rfl⟩ | ⟨b',o,u,c,rfl,hc,hb',hl,hu⟩
  ·simp at hb
  ·simp at hb;omega⟩
structure Hp (H0 H:Heap) (L:List Thing):Prop where
 keeps:Keeps [] H0 H
 new:∀ t∈L,∀ b∈t.fp,H0.next≤b
 all:∀ t∈L,t.P H
 apart:L.Pairwise fun t u=>∀ b∈t.fp,b ∉ u.fp
theorem Hp.start (H:Heap):Hp H H []:=⟨Keeps.refl _ _,by simp,by simp,List.Pairwise.nil⟩
variable {H0 H H':Heap} {L:List Thing} {t t':Thing}
theorem Hp.keep (h:Hp H0 H L) {S:List Nat} (hk:Keeps S H H') (hs:∀ b∈S,H0.next≤b∧∀ t∈L,b ∉ t.fp):Hp H0 H' L :=
 ⟨h.keeps.trans hk (fun b hb hm=>by have:=(hs b hm).1;omega),h.new,fun t ht=>t.loc hk.next (fun b hb=>hk.same b (t.lt (h.all t ht) b hb) fun q=>(hs b q).2 t ht hb) (h.all t ht),h.apart⟩
theorem Hp.keep0 (h:Hp H0 H L) (hk:Keeps [] H H'):Hp H0 H' L:=h.keep hk (by simp)
theorem Hp.push (h:Hp H0 H L) (x:Option Blk):Hp H0 (H.push x) L:=h.keep0 (Keeps.push _ _ _)
theorem Hp.head (h:Hp H0 H (t :: L)):t.P H:=h.all t (by simp)
theorem Hp.tail (h:Hp H0 H (t :: L)):Hp H0 H L:=⟨h.keeps,fun u hu=>h.new u (by simp[hu]),fun u hu=>h.all u (by simp[hu]),(List.pairwise_cons.1 h.apart).2⟩
theorem Hp.drop (h:Hp H0 H L) (n:Nat):Hp H0 H (L.drop n):=⟨h.keeps,fun u hu=>h.new u (List.mem_of_mem_drop hu),fun u hu=>h.all u (List.mem_of_mem_drop hu),h.apart.sublist (List.drop_sublist n L)⟩
theorem Hp.sub {L':List Thing} (h:Hp H0 H L) (hs:L'.Sublist L):Hp H0 H L':=⟨h.keeps,fun u hu=>h.new u (hs.subset hu),fun u hu=>h.all u (hs.subset hu),h.apart.sublist hs⟩
theorem Hp.perm {L':List Thing} (h:Hp H0 H L) (hp:L.Perm L'):Hp H0 H L' :=
 ⟨h.keeps,fun u hu=>h.new u (hp.mem_iff.2 hu),fun u hu=>h.all u (hp.mem_iff.2 hu),(hp.pairwise_iff (R:=fun t u:Thing=>∀ b∈t.fp,b ∉ u.fp) (fun h b hb hb'=>h b hb' hb)).1 h.apart⟩
theorem Hp.at (h:Hp H0 H L) {i:Nat} (hi:L[i]? = some t):t.P H:=h.all t (List.mem_of_getElem? hi)
theorem Hp.newAt (h:Hp H0 H L) {i:Nat} (hi:L[i]? = some t):∀ b∈t.fp,H0.next≤b:=h.new t (List.mem_of_getElem? hi)
theorem Hp.ltAt (h:Hp H0 H L) {i:Nat} (hi:L[i]? = some t):∀ b∈t.fp,b < H.next:=t.lt (h.at hi)
theorem zbjk {α:Type}:∀ {L:List α} {i:Nat} {t:α},L[i]? = some t→L.Perm (t :: L.eraseIdx i)
 | [],i,t,h=>by simp at h
 | x :: l,0,t,h=>by simp at h;subst h;exact List.Perm.refl _
 | x :: l,i + 1,t,h=>by
  have:=zbjk (L:=l) (i:=i) (t:=t) (by simpa using h)
  exact (List.Perm.cons x this).trans (List.Perm.swap _ _ _)
theorem zbrf {α:Type}:∀ {L:List α} {i:Nat} {t u:α},L[i]? = some t→(u :: L.eraseIdx i).Perm (L.set i u)
 | [],i,t,u,h=>by simp at h
 | x :: l,0,t,u,h=>by simp
 | x :: l,i + 1,t,u,h=>by
  have:=zbrf (L:=l) (i:=i) (t:=t) (u:=u) (by simpa using h)
  exact (List.Perm.swap _ _ _).trans (List.Perm.cons x this)
theorem Hp.front (h:Hp H0 H L) {i:Nat} (hi:L[i]? = some t):Hp H0 H (t :: L.eraseIdx i):=h.perm (zbjk hi)
theorem Hp.add (h:Hp H0 H L) (hk:Keeps [] H H') (ht:t.P H') (hn:∀ b∈t.fp,H.next≤b):Hp H0 H' (t :: L):=by
 have h1:=h.keep0 hk
 refine⟨h1.keeps,fun u hu=>?_,fun u hu=>?_,List.pairwise_cons.2 ⟨fun u hu b hb hb'=>?_,h1.apart⟩⟩
 ·rcases List.mem_cons.1 hu with rfl | hu
  ·exact fun b hb=>Nat.le_trans h.keeps.next (hn b hb)
  ·exact h.new u hu
 ·rcases List.mem_cons.1 hu with rfl | hu
  ·exact ht
  ·exact h1.all u hu
 ·have:=hn b hb
  have:=u.lt (h.all u hu) b hb'
  omega
theorem Hp.newc (h:Hp H0 H L) (cs:List V):Hp H0 (H.push (some (.cells true cs))) (cel H.next cs :: L) :=
 h.add (Keeps.push _ _ _) (Heap.get_push_self _ _) (by
  intro b hb
  have:b=H.next:=by simpa[cel] using hb
  omega)
theorem Hp.newo {α:Type} [Flat α] (h:Hp H0 H L) {n m:Nat} (xs:List α) (hs:Flat.size α=n) (hm:xs.length=m):Hp H0 (H.push (some (.cells true (zbm xs)))) (own (slc H.next 0 n m m) xs :: L) :=
 h.add (Keeps.push _ _ _) (z1y hs hm) (by
  intro b hb
  have:b=H.next:=by simpa[own] using hb
  omega)
theorem Hp.nilo {α:Type} [Flat α] (h:Hp H0 H L):Hp H0 H (own (.slice none 0 0) ([]:List α) :: L) :=
 h.add (Keeps.refl _ _) (zi7.nil H) (by simp[own])
theorem Hp.step1 (h:Hp H0 H (t :: L)) (hk:Keeps t.fp H H') (ht:t'.P H') (hn:∀ b∈t'.fp,b∈t.fp∨H.next≤b):Hp H0 H' (t' :: L):=by
 have hp:=(List.pairwise_cons.1 h.apart).1
 have h1:Hp H0 H' L:=h.tail.keep hk fun b hb=>⟨h.new t (by simp) b hb,fun u hu=>hp u hu b hb⟩
 refine⟨h1.keeps,fun u hu=>?_,fun u hu=>?_,List.pairwise_cons.2 ⟨fun u hu b hb hb'=>?_,h1.apart⟩⟩
 ·rcases List.mem_cons.1 hu with rfl | hu
  ·intro b hb
   rcases hn b hb with q | q
   ·exact h.new t (by simp) b q
   ·exact Nat.le_trans h.keeps.next q
  ·exact h1.new u hu
 ·rcases List.mem_cons.1 hu with rfl | hu
  ·exact ht
  ·exact h1.all u hu
 ·rcases hn b hb with q | q
  ·exact hp u hu b q hb'
  ·have:=u.lt (h.all u (by simp[hu])) b hb';omega
theorem Hp.step (h:Hp H0 H L) {i:Nat} (hi:L[i]? = some t) (hk:Keeps t.fp H H') (ht:t'.P H') (hn:∀ b∈t'.fp,b∈t.fp∨H.next≤b):Hp H0 H' (L.set i t') :=
 ((h.front hi).step1 hk ht hn).perm (zbrf hi)
theorem Hp.get {d i:Nat} {cs:List V} (h:Hp H0 H L) (hi:L[i]? = some (cel d cs)):H.get d=some (.cells true cs):=h.at hi
theorem Hp.set {d i:Nat} {cs:List V} (h:Hp H0 H L) (hi:L[i]? = some (cel d cs)) (cs':List V):Hp H0 (H.set d (some (.cells true cs'))) (L.set i (cel d cs')) :=
 h.step hi (Keeps.set (by simp[cel])) (Heap.get_set_eq (Heap.get_lt (h.get hi))) (fun b hb => .inl hb)
theorem Hp.own {α:Type} [Flat α] {i:Nat} {v:V} {xs:List α} (h:Hp H0 H L) (hi:L[i]? = some (own v xs)):zi7 H v xs:=h.at hi
theorem Hp.view {α:Type} [Flat α] {i:Nat} {v:V} {xs:List α} (h:Hp H0 H L) (hi:L[i]? = some (view v xs)):Sl H v xs:=h.at hi
theorem Hp.ro {α:Type} [Flat α] {v:V} {xs:List α} (h:Hp H0 H L) (hs:Sl H0 v xs):Sl H v xs:=hs.keep0 h.keeps
theorem Hp.join {B:List Thing} (h:Hp H0 H L) (h2:Hp H H' B):Hp H0 H' (B ++ L):=by
 have:=(h.keep0 h2.keeps)
 refine⟨this.keeps,fun u hu=>?_,fun u hu=>?_,List.pairwise_append.2 ⟨h2.apart,h.apart,fun t ht u hu b hb hb'=>?_⟩⟩
 ·rcases List.mem_append.1 hu with hu | hu
  ·exact fun b hb=>Nat.le_trans h.keeps.next (h2.new u hu b hb)
  ·exact h.new u hu
 ·rcases List.mem_append.1 hu with hu | hu
  ·exact h2.all u hu
  ·exact this.all u hu
 ·have:=h2.new t ht b hb
  have:=u.lt (h.all u hu) b hb'
  omega
theorem zvl {α:Type} [Flat α] {v x:V} {xs ys:List α} {n bytes i:Nat} {Q:V→Heap→Prop} (h:Hp H0 H L) (hi:L[i]? = some (Go.AM.own v xs)) (hs:Flat.size α=n) (hx:Sl H x ys) (hb:(xs.length + ys.length) * bytes≤35184372088832) (hb2:xs.length + ys.length≤35184372088832)
  (hQ:∀ w H',Hp H0 H' (L.set i (Go.AM.own w (xs ++ ys)))→Q w H'):wp (zc4 n bytes v x) Q H :=
 z9m hs (h.own hi) hx hb hb2 fun w H' o k vv=>hQ w H' (h.step hi k o vv)
theorem zf5 {α:Type} [Flat α] {v:V} {xs ys:List α} {n m bytes i:Nat} {zero:List V} {parts:List (Nat × Nat × V)} {Q:V→Heap→Prop} (h:Hp H0 H L) (hi:L[i]? = some (Go.AM.own v xs)) (hs:Flat.size α=n) (hz:zero.all zgb=true) (hf:zbn zero parts=some (zbm ys)) (hm:ys.length=m) (hb:(xs.length + m) * bytes≤35184372088832) (hb2:xs.length + m≤35184372088832)
  (hQ:∀ w H',Hp H0 H' (L.set i (Go.AM.own w (xs ++ ys)))→Q w H'):wp (zcz n m zero parts) (fun x H1=>wp (zc4 n bytes v x) Q H1) H :=
 zbne hs (h.own hi) hz hf hm hb hb2 fun w H' o k vv=>hQ w H' (h.step hi k o vv)
theorem zi7.at {α:Type} [Flat α] {H:Heap} {v:V} {xs:List α} (h:zi7 H v xs) (hne:xs≠[]):slO v=0∧H.get (slB v)=some (.cells true (zbm xs))∧v=slc (slB v) 0 (Flat.size α) xs.length xs.length:=by
 rcases h with⟨_,q⟩ | ⟨b,rfl,hb⟩
 ·exact absurd q hne
 ·exact⟨rfl,hb,rfl⟩
theorem zi7.to {α:Type} [Flat α] {H H':Heap} {v:V} {xs ys:List α} (h:zi7 H v xs) (hne:xs≠[]) (hl:ys.length=xs.length) (hg:H'.get (slB v)=some (.cells true (zbm ys))):zi7 H' v ys:=by
 rcases h with⟨_,q⟩ | ⟨b,rfl,hb⟩
 ·exact absurd q hne
 ·exact .inr ⟨b,by rw[hl],hg⟩
theorem zboh {α:Type} [Flat α] {v u:V} {xs:List α} {x' d:α} {idx i off n:Nat} {Q:V→Heap→Prop} (h:Hp H0 H L) (hidx:L[idx]? = some (Go.AM.own v xs)) (hs:Flat.size α=n) (hi:i < xs.length) (ho:off < n) (hu:u.isOne=true) (hx:Flat.enc x'=(Flat.enc (xs.getD i d)).set off u)
  (hQ:∀ H',Hp H0 H' (L.set idx (Go.AM.own v (xs.set i x')))→Q undef H'):wp (st1 (ptr (slB v) (slO v + i * n + off)) u) Q H:=by
 subst hs
 have o:=h.own hidx
 have hne:xs≠[]:=by intro q;rw[q] at hi;simp at hi
 obtain⟨e0,hg,ev⟩:=o.at hne
 have hlen:=zb6 xs
 have hin:i * Flat.size α + off < (zbm xs).length:=by
  rw[hlen]
  calc i * Flat.size α + off < i * Flat.size α + Flat.size α:=by omega
   _=(i + 1) * Flat.size α:=by rw[Nat.add_mul];omega
   _≤xs.length * Flat.size α:=Nat.mul_le_mul_right _ (by omega)
 rw[e0,Nat.zero_add]
 refine (zby7 hg hu hin).mpr ?_
 rw[zbze xs i off u x' d hi ho hx]
 refine hQ _ (h.step hidx (Keeps.set (by show slB v∈vb v;rw[ev];simp[slB])) (o.to hne (by simp) (Heap.get_set_eq (Heap.get_lt hg))) fun b hb => .inl hb)
theorem zbzi {α:Type} [Flat α] {v:V} {xs:List α} {x':α} {idx i n:Nat} {Q:V→Heap→Prop} (h:Hp H0 H L) (hidx:L[idx]? = some (Go.AM.own v xs)) (hs:Flat.size α=n) (hi:i < xs.length)
  (hQ:∀ H',Hp H0 H' (L.set idx (Go.AM.own v (xs.set i x')))→Q undef H'):wp (stn n (ptr (slB v) (slO v + i * n)) (.agg (Flat.enc x').toArray)) Q H:=by
 subst hs
 have o:=h.own hidx
 have hne:xs≠[]:=by intro q;rw[q] at hi;simp at hi
 obtain⟨e0,hg,ev⟩:=o.at hne
 have hlen:=zb6 xs
 have hin:i * Flat.size α + Flat.size α≤(zbm xs).length:=by
  rw[hlen]
  calc i * Flat.size α + Flat.size α=(i + 1) * Flat.size α:=by rw[Nat.add_mul];omega
   _≤xs.length * Flat.size α:=Nat.mul_le_mul_right _ (by omega)
 rw[e0,Nat.zero_add]
 refine (zb4c hg (Flat.one x') (Flat.len x') hin).mpr ?_
 rw[zbrc xs i x' hi]
 refine hQ _ (h.step hidx (Keeps.set (by show slB v∈vb v;rw[ev];simp[slB])) (o.to hne (by simp) (Heap.get_set_eq (Heap.get_lt hg))) fun b hb => .inl hb)
end Go.AM

/- From runs on the abstract machine to calls in the model: what was there before stays as it was. -/
namespace Go.AM
open Go.RowKit (Below)
open Go.ChangeShapes
def zbzj (t:Nat) (x:V):V:=match x with
 | .agg cs=>match cs.toList with
  | [.pointer (some ⟨g,o,none⟩)]=>if g < 1048576∧o < 1048576 then .chan (some (t * 1099511627776 + g * 1048576 + o)) else undef
  | _=>undef
 | _=>undef
theorem zbxa (ρ:Ren) (t:Nat) (x:V):VRel ρ (zbzj t x) (.iface t x):=by
 unfold zbzj
 split
 ·rename_i cs
  split
  ·rename_i g o hcs
   split
   ·rename_i h
    have e:tokV (t * 1099511627776 + g * 1048576 + o) = .iface t (.agg cs):=by
     unfold tokV
     have e1:(t * 1099511627776 + g * 1048576 + o) / 1099511627776=t:=by omega
     have e2:(t * 1099511627776 + g * 1048576 + o) / 1048576 % 1048576=g:=by omega
     have e3:(t * 1099511627776 + g * 1048576 + o) % 1048576=o:=by omega
     rw[e1,e2,e3]
     congr 2
     apply Array.ext'
     rw[hcs]
    rw[← e];exact .tok _
   ·exact .undef _
  ·exact .undef _
 ·exact .undef _
def zbvq (N:Nat) (v:V):V:=match v with
 | .bool b => .bool b
 | .int k n => .int k n
 | .string s => .string s
 | .pointer none => .pointer none
 | .pointer (some ⟨b,o,none⟩)=>if b < N then .pointer (some ⟨b,o,none⟩) else undef
 | .slice none 0 0 => .slice none 0 0
 | .slice (some a) len cap=>if a.spot=none∧a.block < N∧len≤cap then slc a.block a.off 0 len cap else if len=0∧cap=0∧0 < N then slc 0 0 0 0 0 else undef
 | .map none => .map none
 | .map (some b)=>if b < N then .map (some b) else undef
 | .nilFunc => .nilFunc
 | .nilIface => .nilIface
 | .iface t x=>zbzj t x
 | _=>undef
def absV (N:Nat) (v:V):V:=match v with
 | .agg cs => .agg (cs.map (zbvq N))
 | v=>zbvq N v
def absB (N:Nat):Option Obj→Option Blk
 | some (.cells C _ _)=>some (.cells false (C.toList.map (absV N)))
 | some (.map E _)=>some (.map false (E.toList.map fun e=>(absV N e.key,absV N e.val)))
 | _=>none
def zbej (w:World):Heap:=Heap.mk0 w.heap.size fun b=>absB w.heap.size w.heap[b]?
def zbrg:Option Obj→Nat
 | some (.cells C _ _)=>C.size
 | _=>0
def ren0 (w:World):Ren:=fun b=>if b < w.heap.size then some ⟨b,0,zbrg w.heap[b]?⟩ else none
theorem zbjm (w:World):(zbej w).next=w.heap.size:=Heap.mk0_next _ _
theorem zbgw (w:World) (b:Nat):(zbej w).get b=absB w.heap.size w.heap[b]? := by
 unfold zbej
 rw[Heap.mk0_get]
 by_cases h:b < w.heap.size
 ·rw[if_pos h]
 ·rw[if_neg h,Array.getElem?_eq_none (by omega)]
  rfl
theorem zbnf (w:World) (v:V):VRel (ren0 w) (zbvq w.heap.size v) v:=by
 have hr:∀ b,b < w.heap.size→ren0 w b=some ⟨b,0,zbrg w.heap[b]?⟩:=fun b h=>by simp only[ren0,h,if_true]
 unfold zbvq
 split
 ·exact .bool _
 ·exact .int _ _
 ·exact .string _
 ·exact .pnil
 ·split
  ·rename_i b o h
   have:=VRel.ptr (ρ:=ren0 w) b o _ (hr b h)
   simpa using this
  ·exact .undef _
 ·exact .snil
 ·split
  ·rename_i a len cap h
   obtain⟨b,o,sp⟩:=a
   obtain⟨rfl,h1,h2⟩:=h
   exact .slc b o 0 len cap _ o cap _ (hr b h1) (.inl (by simp)) h2 (Nat.le_refl _) (.inl rfl) (.inl (by simp)) (.inl rfl)
  ·split
   ·rename_i a len cap _ h
    obtain⟨rfl,rfl,h0⟩:=h
    exact .slc 0 0 0 0 0 _ 0 0 a (hr 0 h0) (.inr rfl) (Nat.le_refl _) (Nat.le_refl _) (.inl rfl) (.inr rfl) (.inl rfl)
   ·exact .undef _
 ·exact .mnil
 ·split
  ·rename_i b h
   exact .map b _ (hr b h)
  ·exact .undef _
 ·exact .nilFunc
 ·exact .nilIface
 ·exact zbxa _ _ _
 ·exact .undef _
theorem zbek (w:World) (v:V):VRel (ren0 w) (absV w.heap.size v) v:=by
 unfold absV
 split
 ·exact .agg _ _ (by simp) fun i h h'=>by simpa using zbnf w _
 ·exact zbnf w _
theorem z55 {ρ:Ren} {f:V→V} (h:∀ v,VRel ρ (f v) v):∀ l:List V,LRel ρ (l.map f) l
 | [] => .nil
 | v :: l => .cons (h v) (z55 h l)
theorem rel0 (w:World):Rel w.heap.size w (ren0 w) (zbej w) w:=by
 refine⟨Below.refl _ _,Nat.le_refl _,fun b hb=>?_,fun b hb=>⟨zbrg w.heap[b]?,by simp only[ren0,hb,if_true]⟩,fun b x hx=>?_,fun b b' x x' L L' hx hx' hne hL hL'=>?_⟩
 ·rw[zbjm] at hb
  simp only[ren0];rw[if_neg (by omega)]
 ·have hlt:=Heap.get_lt hx
  rw[zbjm] at hlt
  rw[zbgw] at hx
  refine⟨⟨b,0,zbrg w.heap[b]?⟩,by simp only[ren0,hlt,if_true],?_⟩
  unfold absB at hx
  split at hx
  ·rename_i C e f hC
   cases hx
   refine⟨C,e,f,hC,by simp[hC,zbrg],⟨fun h=>absurd h (by decide),fun _=>by simp⟩,by simp,?_⟩
   simp only[List.drop_zero,List.length_map]
   rw[List.take_of_length_le (by simp)]
   exact z55 (zbek w) _
  ·rename_i E clk hE
   cases hx
   refine⟨rfl,E,clk,hE,fun h=>absurd h (by decide),?_,?_⟩
   ·have:=z55 (zbek w) (E.toList.map (·.key))
    simpa[List.map_map,Function.comp_def] using this
   ·have:=z55 (zbek w) (E.toList.map (·.val))
    simpa[List.map_map,Function.comp_def] using this
  ·cases hx
 ·simp only[ren0] at hL hL'
  split at hL
  ·split at hL'
   ·cases hL;cases hL';exact hne
   ·cases hL'
  ·cases hL
theorem calls_of_wp' {P:Program} {f:FuncId} {F:List V→M V} (hk:zu P f F) {W:World} (hG:P.globals.size≤W.heap.size) {args:Array V} {b:Bool}
  (h:wp (F (args.toList.map (absV W.heap.size))) (fun r _=>r = .bool b) (zbej W)):Calls P f args W fun e W'=>e = .returned (.bool b)∧Below W.heap.size W W':=by
 obtain⟨r,H',h1,rfl⟩:=h
 have:=hk.2 W.heap.size W (ren0 W) (zbej W) W (args.toList.map (absV W.heap.size)) args.toList (.bool b) H' hG (rel0 W) (z55 (zbek W) _) h1
 have e:args.toList.toArray=args:=by simp
 rw[e] at this
 refine this.mono fun e W' ⟨r',he,ρ',hv,hr,_⟩=>?_
 subst he
 cases hv
 exact⟨rfl,hr.below⟩
theorem zbrh {H:Type} {enc:TypeId × Value→H} {P:Program} (hl:laidOutB P=true) {W W':World} (hb:Below W.heap.size W W') {sp:Nat→Bool}:∀ {ts:List TypeId} {vs:List Value} {ds:List (DataW H)} {ps:List MemPlace},
  (∀ t∈ts,P.readableRec t=true∧t < P.types.size)→DataW.TrodAll enc P W 0 (fun _=>true) true ts vs ds ps→(∀ p∈ps,p.block < W.heap.size)→(∀ p∈ps,sp p.block=true)→DataW.TrodAll enc P W' 0 sp true ts vs ds ps
 | [],vs,ds,ps,_,h,_,_=>by
  obtain⟨rfl,rfl,rfl⟩:=trodAll_nil h
  exact trodAll_mk0
 | t :: ts,vs,ds,ps,ht,h,hlt,hsp=>by
  obtain⟨v0,vs0,d0,ds0,p0,q0,rfl,rfl,rfl,h0,r0⟩:=trodAll_cons h
  have h1:=ht t (by simp)
  refine trodAll_cons_mk (WideElems.Trod_stays hl h1.1 h1.2 h0 (fun p hp=>hb.same (hlt p (by simp[hp]))) fun p hp=>hsp p (by simp[hp])) ?_
  exact zbrh hl hb (fun t h=>ht t (by simp[h])) r0 (fun p hp=>hlt p (by simp[hp])) (fun p hp=>hsp p (by simp[hp]))
theorem post_of_below {H:Type} {enc:TypeId × Value→H} {P:Program} {f:Func} {s:ChangeSpec} {apart fresh handsOn again:Bool} {W W':World} {args:Array Value} {v:Value} {ds:List (DataW H)} {gs:List (DataW H)} {before:List MemPlace} (hl:laidOutB P=true)
  (hts:∀ t∈f.params.toList,P.readableRec t=true∧t < P.types.size) (hvars:s.vars=[])
  (hW:DataW.Whole enc P f.params.toList s.vars apart W args.toList ds gs before) (hb:Below W.heap.size W W')
  (hres:∀ (b:Nat) (sp:Nat→Bool) (hd:Bool),DataW.TrodAll enc P W' b sp hd f.resultTypes.toList (v.resultList f.resultTypes.size) (s.fn H (ds ++ gs)).results [])
  (hargs:(s.fn H (ds ++ gs)).args=ds) (hv2:(s.fn H (ds ++ gs)).vars=[])
  (hok:∀ (j:Nat) (t:TypeId) (r:Value),f.resultTypes[j]? = some t→(v.resultList f.resultTypes.size)[j]? = some r→Value.okWide P W' .any 0 t r) :
  s.post enc P f apart fresh handsOn again W args v W':=by
 have hlt:∀ p∈before,p.block < W.heap.size:=fun p hp=>hW.lt p hp
 have hold:∀ p∈before,(fun b=>decide (b < W.heap.size)) p.block=true:=fun p hp=>by simpa using hlt p hp
 have hW':=hW
 obtain⟨pa,pv,hA,hV,hps,hz,hn⟩:=hW'
 rw[hvars] at hV
 obtain⟨hgs,hpv⟩:=trodVars_none hV
 subst hpv
 have hpa:before=pa:=by rw[hps,List.append_nil]
 have hargs':∀ sp:Nat→Bool,(∀ p∈before,sp p.block=true)→DataW.TrodAll enc P W' 0 sp true f.params.toList args.toList (s.fn H (ds ++ gs)).args pa:=fun sp hsp=>by
  rw[hargs]
  exact zbrh hl hb hts hA (fun p hp=>hlt p (by rw[hpa];exact hp)) (fun p hp=>hsp p (by rw[hpa];exact hp))
 have hvars':∀ sp:Nat→Bool,DataW.TrodVars enc P W' sp s.vars (s.fn H (ds ++ gs)).vars []:=fun sp=>by
  rw[hvars,hv2];rfl
 refine⟨ds,gs,before,[],pa,[],hW,hres _ _ _,hargs' _ hold,hvars' _,World.keptBut_mono (fun p hp=>⟨hp,?_⟩) (hb.frame (· ∈ before)),fun _=>?_⟩
 ·rw[hps,List.mem_append] at hp
  exact Or.inr hp
 ·refine⟨hok,_,_,([] ++ pa) ++ [],⟨[] ++ pa,[],trodAll_append (hargs' _ (fun _ _=>rfl)) (hres _ _ _),hvars' _,rfl,?_,?_⟩,?_⟩
  ·intro b off hp
   have hm:MemPlace.cell b off∈before:=by rw[hps];simpa using hp
   rw[hb.frozen (p:=⟨b,off,none⟩) (hlt _ hm)]
   exact hz b off hm
  ·intro ha
   have:=hn ha
   rw[hps] at this
   simpa using this
  ·intro p hp _
   rw[hps]
   simpa using hp
end Go.AM

/- Slices among the arguments: what they read as, and how they lie on the abstract machine. -/
namespace Go.AM
open Go.RowKit (Below)
open Go.ChangeShapes Go.WideShapes
variable {H:Type} {enc:TypeId × Value→H} {P:Program} {W:World}
instance:Inhabited ByteArray:=⟨⟨#[]⟩⟩
end Go.AM

/- Structs of whole numbers among the arguments' elements. -/
namespace Go.AM
open Go.ChangeShapes Go.WideShapes
variable {H:Type} {enc:TypeId × Value→H} {P:Program} {W:World}
end Go.AM

/- Structs whose fields are of one cell each, among the arguments and their elements. -/
namespace Go.AM
open Go.ChangeShapes Go.WideShapes
variable {H:Type} {enc:TypeId × Value→H} {P:Program} {W:World}
end Go.AM
