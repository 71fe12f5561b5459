import Derived.Test.YtjchglndancedaaGreatDoorCfBq
import Derived.Test.YtjchglndancedaaGreatDoorAmIn
import Derived.Test.YtjchglndancedaaGreatDoorFun2
set_option linter.all false
/- conf: the loops over units; a system's lines -/
set_option maxHeartbeats 8000000
namespace Go.AM.Cap
open Go.AM Go.Proofs
variable {H0 H:Heap} {L:List Thing}
theorem zps {k:ByteArray} (hk:k.size≤10000) {x:Bd} (h:zd5 x.n):(zjl k x).length≤60000:=zc7 hk (fun d hd=>by
 simp only[List.mem_cons,List.not_mem_nil,or_false] at hd
 rcases hd with rfl | rfl
 ·by_cases c:x.kind=1
  ·rw[if_pos c];exact⟨by decide,by decide⟩
  ·rw[if_neg c];exact⟨by decide,by decide⟩
 ·exact h) (by simp)
theorem zb56 {b:Nat} {bf:Option Nat} {l:List UInt8} {v a1 a2 a3 a4:V} {ub:List Bd} (hP:zn4 H0) (hv:Sl H0 v ub) (hb:∀ x∈ub,zd5 x.n) (hn:ub.length≤32) (hl:l.length≤3000000000) (h:Hp H0 H (wrt b bf l :: L)) (Q:Out→Heap→Prop)
  (hQ:∀ bf' H',Hp H0 H' (wrt b bf' (l ++ ub.flatMap (zjl z34)) :: L)→Q (.brk 10 [ptr b 0,a1,a2,a3,a4]) H') :
  wp (zba zbm (zg4 zku zgq zkv) [ptr b 0,a1,a2,a3,a4,v,i64 ub.length,i64 0]) Q H:=by
 refine zbo ub.length (by omega) (fun j vs H'=>∃ bf',vs=[ptr b 0,a1,a2,a3,a4,v,i64 ub.length,i64 j]∧Hp H0 H' (wrt b bf' (l ++ (ub.take j).flatMap (zjl z34)) :: L)) ⟨bf,rfl,by simpa using h⟩ ?_
 rintro j vs H1 hj ⟨bf1,rfl,s1⟩
 by_cases hlt:j < ub.length
 case neg =>
  have:j=ub.length:=by omega
  subst this
  rw[List.take_length] at s1
  (try simp (maxSteps:=999999) (disch:=try exact ZD) only[ZB,zg4])
  exact hQ bf1 H1 s1
 have hp:=s1.ro hv
 have b1:=hp.addr' (n:=2) rfl (k := .i64) (i:=j) (by omega) (by omega)
 rw[Int.toNat_natCast] at b1
 have d1:=fun Q=>hp.ldn' (Q:=Q) (n:=2) rfl hlt default
 have hg1:=hb _ (zbh (d:=default) hlt)
 have hacc:((ub.take j).flatMap (zjl z34)).length≤60000 * (ub.take j).length:=zby fun p hp=>zps (by decide) (hb p (List.mem_of_mem_take hp))
 have htl:(ub.take j).length=j:=by rw[List.length_take];omega
 rw[htl] at hacc
 rw[zc2 (d:=default) hlt]
 simp only[List.flatMap_append,List.flatMap_cons,List.flatMap_nil,List.append_nil]
 generalize ub.getD j default=g at *
 obtain⟨ki,n⟩:=g
 simp only at hg1
 (try simp (maxSteps:=999999) (disch:=try exact ZD) only[ZA,zo,zn,zm,zk,zi,zj,zg,ze,zg4,zri,b1,d1,zxo])
 have s2:Hp H0 (H1.push (some (.cells true [i64 ki,i64 n]))) (wrt b bf1 (l ++ (ub.take j).flatMap (zjl z34)) :: cel H1.next [i64 ki,i64 n] :: L):=znu (s1.newc _)
 generalize hH2:H1.push (some (.cells true [i64 ki,i64 n]))=H2 at *
 generalize H1.next=X at *
 have gX:=s2.get (i:=1) rfl
 have hw:(Wd.s (if decide (ki=1)=true then zkg else zr5)).Ok:=by cases decide (ki=1) <;> exact⟨by decide,by decide⟩
 (try simp (maxSteps:=999999) (disch:=try exact ZD) only[ZB,gX,z79])
 refine (zdf (cs:=zbj [Wd.s (if decide (ki=1)=true then zkg else zr5),Wd.n n]) (by decide) (by rfl)).mpr ?_
 (try simp (maxSteps:=999999) (disch:=try exact ZD) only[ZB])
 refine znt [.s (if decide (ki=1)=true then zkg else zr5),.n n] hP s2 (by decide) (fun d hd=>by
  simp only[List.mem_cons,List.not_mem_nil,or_false] at hd
  rcases hd with rfl | rfl
  ·exact hw
  ·exact hg1) (by simp) rfl (by simp only[List.length_append];omega) _ fun bf' H' s3=>?_
 (try simp (maxSteps:=999999) (disch:=try exact ZD) only[ZB,gX,zrh])
 exact⟨hlt,bf',rfl,by
  have s4:=zm5 s3
  rw[List.append_assoc] at s4
  simp only[decide_eq_true_eq] at s4
  exact s4⟩
theorem zb3r {b:Nat} {bf:Option Nat} {l:List UInt8} {v a2 a3 a4:V} {ub:List Bd} (hP:zn4 H0) (hv:Sl H0 v ub) (hb:∀ x∈ub,zd5 x.n) (hn:ub.length≤32) (hl:l.length≤3000000000) (h:Hp H0 H (wrt b bf l :: L)) (Q:Out→Heap→Prop)
  (hQ:∀ bf' H',Hp H0 H' (wrt b bf' (l ++ ub.flatMap (zjl kPut)) :: L)→Q (.brk 12 [ptr b 0,a2,a3,a4]) H') :
  wp (zba zbm (zg5 zku zgq zkv) [ptr b 0,a2,a3,a4,v,i64 ub.length,i64 0]) Q H:=by
 refine zbo ub.length (by omega) (fun j vs H'=>∃ bf',vs=[ptr b 0,a2,a3,a4,v,i64 ub.length,i64 j]∧Hp H0 H' (wrt b bf' (l ++ (ub.take j).flatMap (zjl kPut)) :: L)) ⟨bf,rfl,by simpa using h⟩ ?_
 rintro j vs H1 hj ⟨bf1,rfl,s1⟩
 by_cases hlt:j < ub.length
 case neg =>
  have:j=ub.length:=by omega
  subst this
  rw[List.take_length] at s1
  (try simp (maxSteps:=999999) (disch:=try exact ZD) only[ZB,zg5])
  exact hQ bf1 H1 s1
 have hp:=s1.ro hv
 have b1:=hp.addr' (n:=2) rfl (k := .i64) (i:=j) (by omega) (by omega)
 rw[Int.toNat_natCast] at b1
 have d1:=fun Q=>hp.ldn' (Q:=Q) (n:=2) rfl hlt default
 have hg1:=hb _ (zbh (d:=default) hlt)
 have hacc:((ub.take j).flatMap (zjl kPut)).length≤60000 * (ub.take j).length:=zby fun p hp=>zps (by decide) (hb p (List.mem_of_mem_take hp))
 have htl:(ub.take j).length=j:=by rw[List.length_take];omega
 rw[htl] at hacc
 rw[zc2 (d:=default) hlt]
 simp only[List.flatMap_append,List.flatMap_cons,List.flatMap_nil,List.append_nil]
 generalize ub.getD j default=g at *
 obtain⟨ki,n⟩:=g
 simp only at hg1
 (try simp (maxSteps:=999999) (disch:=try exact ZD) only[ZA,zo,zn,zm,zk,zi,zj,zg,ze,zg5,zrk,b1,d1,zxo])
 have s2:Hp H0 (H1.push (some (.cells true [i64 ki,i64 n]))) (wrt b bf1 (l ++ (ub.take j).flatMap (zjl kPut)) :: cel H1.next [i64 ki,i64 n] :: L):=znu (s1.newc _)
 generalize hH2:H1.push (some (.cells true [i64 ki,i64 n]))=H2 at *
 generalize H1.next=X at *
 have gX:=s2.get (i:=1) rfl
 have hw:(Wd.s (if decide (ki=1)=true then zkg else zr5)).Ok:=by cases decide (ki=1) <;> exact⟨by decide,by decide⟩
 (try simp (maxSteps:=999999) (disch:=try exact ZD) only[ZB,gX,z79])
 refine (zdf (cs:=zbj [Wd.s (if decide (ki=1)=true then zkg else zr5),Wd.n n]) (by decide) (by rfl)).mpr ?_
 (try simp (maxSteps:=999999) (disch:=try exact ZD) only[ZB])
 refine znt [.s (if decide (ki=1)=true then zkg else zr5),.n n] hP s2 (by decide) (fun d hd=>by
  simp only[List.mem_cons,List.not_mem_nil,or_false] at hd
  rcases hd with rfl | rfl
  ·exact hw
  ·exact hg1) (by simp) rfl (by simp only[List.length_append];omega) _ fun bf' H' s3=>?_
 (try simp (maxSteps:=999999) (disch:=try exact ZD) only[ZB,gX,zrj])
 exact⟨hlt,bf',rfl,by
  have s4:=zm5 s3
  rw[List.append_assoc] at s4
  simp only[decide_eq_true_eq] at s4
  exact s4⟩
theorem z7k {u:PUn} (h1:u.ins.length≤32) (h2:u.outs.length≤32) (g1:∀ x∈u.ins,zd5 x.n) (g2:∀ x∈u.outs,zd5 x.n):(zns u).length≤4000000:=by
 have q1:(u.ins.flatMap (zjl z34)).length≤60000 * u.ins.length:=zby fun x hx=>zps (by decide) (g1 x hx)
 have q2:(u.outs.flatMap (zjl kPut)).length≤60000 * u.outs.length:=zby fun x hx=>zps (by decide) (g2 x hx)
 have q3:(ze4 zbgo []).length≤60000:=zc7 (by decide) (by simp) (by simp)
 simp only[zns,List.length_append]
 omega
def UnOk (u:PUn):Prop:=u.ins.length≤32∧u.outs.length≤32∧(∀ x∈u.ins,zd5 x.n)∧∀ x∈u.outs,zd5 x.n
theorem zb57 {b P:Nat} {bf:Option Nat} {l:List UInt8} {x:SyV} {s:Sy} (hP:zn4 H0) (hs:SysAt H0 x s) (hu:∀ u∈s.uns,UnOk u) (hn:s.uns.length≤100) (hl:l.length≤1000000000) (h:Hp H0 H (wrt b bf l :: cel P (x.cs s) :: L)) (Q:Out→Heap→Prop)
  (hQ:∀ bf' H',Hp H0 H' (wrt b bf' (l ++ s.uns.flatMap zns) :: cel P (x.cs s) :: L)→Q (.brk 8 []) H') :
  wp (zba zbm (zg6 zku zgq zkv) [ptr b 0,x.uv,i64 s.uns.length,i64 0]) Q H:=by
 obtain⟨ul,hU,hul⟩:=hs.uns
 have hlen:s.uns.length=ul.length:=by rw[← hul,List.length_map]
 have htk:∀ j,s.uns.take j=(ul.take j).map Un.p:=fun j=>by rw[← hul,List.map_take]
 refine zbo s.uns.length (by omega) (fun j vs H'=>∃ bf',vs=[ptr b 0,x.uv,i64 s.uns.length,i64 j]∧Hp H0 H' (wrt b bf' (l ++ (s.uns.take j).flatMap zns) :: cel P (x.cs s) :: L)) ⟨bf,rfl,by simpa using h⟩ ?_
 rintro j vs H1 hj ⟨bf1,rfl,s1⟩
 by_cases hlt:j < s.uns.length
 case neg =>
  have:j=s.uns.length:=by omega
  subst this
  rw[List.take_length] at s1
  (try simp (maxSteps:=999999) (disch:=try exact ZD) only[ZB,zg6])
  exact hQ bf1 H1 s1
 have hu1:=hU.keep0 s1.keeps
 have a1:=hu1.out.addr' (n:=2) rfl (k := .i64) (i:=j) (by omega) (by omega)
 rw[Int.toNat_natCast] at a1
 have d1:=fun Q=>hu1.out.ldn' (Q:=Q) (n:=2) rfl (i:=j) (by omega) default
 have hat:=hU.at (i:=j) (by omega)
 have hok:=hu _ (zbh (d:=default) hlt)
 have hpj:s.uns.getD j default=(ul.getD j default).p:=by
  rw[← hul,List.getD_eq_getElem?_getD,List.getElem?_map,List.getD_eq_getElem?_getD,List.getElem?_eq_getElem (by omega)];rfl
 have hacc:((s.uns.take j).flatMap zns).length≤4000000 * (s.uns.take j).length:=zby fun p hp=>by
  obtain⟨r1,r2,r3,r4⟩:=hu p (List.mem_of_mem_take hp)
  exact z7k r1 r2 r3 r4
 have htl:(s.uns.take j).length=j:=by rw[List.length_take];omega
 rw[htl] at hacc
 rw[zc2 (d:=default) hlt]
 simp only[List.flatMap_append,List.flatMap_cons,List.flatMap_nil,List.append_nil]
 rw[hpj] at hok ⊢
 generalize ul.getD j default=u at *
 obtain⟨r1,r2,r3,r4⟩:=hok
 have hone:([u.ins.v,u.outs.v]:List V).all Value.isOne=true:=by simp[u.ins.one,u.outs.one]
 (try simp (maxSteps:=999999) (disch:=try exact ZD) only[ZA,zo,zn,zm,zk,zi,zj,zg,ze,zg6,zrn,a1,d1,zbos])
 have s2:Hp H0 (H1.push (some (.cells true [u.ins.v,u.outs.v]))) (wrt b bf1 (l ++ (s.uns.take j).flatMap zns) :: cel H1.next [u.ins.v,u.outs.v] :: cel P (x.cs s) :: L):=znu (s1.newc _)
 generalize hH2:H1.push (some (.cells true [u.ins.v,u.outs.v]))=H2 at *
 generalize H1.next=X at *
 refine zb0w hP s2 (by decide) (by simp only[List.length_append];omega) _ fun bf2 H3 s3=>?_
 have g3:=s3.get (i:=1) rfl
 have l1:=hat.1.len
 have l2:=hat.2.len
 have hu0:(ze4 zbgo []).length≤60000:=zc7 (by decide) (by simp) (by simp)
 (try simp (maxSteps:=999999) (disch:=try exact ZD) only[ZB,g3,l1])
 refine zb56 hP hat.1 r3 r1 (by simp only[List.length_append];have:(ze4 ⟨#[117,110,105,116]⟩ []).length≤60000:=hu0;omega) s3 _ fun bf4 H4 s4=>?_
 have g4:=s4.get (i:=1) rfl
 have q1:(u.ins.xs.flatMap (zjl z34)).length≤60000 * u.ins.xs.length:=zby fun x hx=>zps (by decide) (r3 x hx)
 have r1':u.ins.xs.length≤32:=r1
 (try simp (maxSteps:=999999) (disch:=try exact ZD) only[ZB,zrl,g4,l2])
 refine zb3r hP hat.2 r4 r2 (by simp only[List.length_append];have:(ze4 ⟨#[117,110,105,116]⟩ []).length≤60000:=hu0;omega) s4 _ fun bf5 H5 s5=>?_
 (try simp (maxSteps:=999999) (disch:=try exact ZD) only[ZB,zrm])
 exact⟨hlt,bf5,rfl,by
  have s6:=zm5 s5
  simp only[List.append_assoc] at s6
  simp only[zns,List.append_assoc]
  exact s6⟩
end Go.AM.Cap

/- sha: ShaA -/
namespace Go.AM.Cap
open Go.AM Go.Proofs
def rotr (x:BitVec 32) (n:Nat):BitVec 32:=x >>> n ||| x <<< (32 - n)
def zb7r (b:List (BitVec 8)) (t:Nat):BitVec 32 :=
 (b.getD (4 * t) 0).setWidth 32 <<< 24 ||| (b.getD (4 * t + 1) 0).setWidth 32 <<< 16 ||| (b.getD (4 * t + 2) 0).setWidth 32 <<< 8 ||| (b.getD (4 * t + 3) 0).setWidth 32
def zb7s (w:List (BitVec 32)) (t:Nat):BitVec 32 :=
 let x:=w.getD (t - 15) 0
 let y:=w.getD (t - 2) 0
 w.getD (t - 16) 0 + (rotr x 7 ^^^ rotr x 18 ^^^ x >>> 3) + w.getD (t - 7) 0 + (rotr y 17 ^^^ rotr y 19 ^^^ y >>> 10)
def words (b:List (BitVec 8)):Nat→List (BitVec 32)
 | 0=>[]
 | t + 1=>words b t ++ [if t < 16 then zb7r b t else zb7s (words b t) t]
def tab:List (BitVec 32):=[0x428a2f98,0x71374491,0xb5c0fbcf,0xe9b5dba5,0x3956c25b,0x59f111f1,0x923f82a4,0xab1c5ed5,
 0xd807aa98,0x12835b01,0x243185be,0x550c7dc3,0x72be5d74,0x80deb1fe,0x9bdc06a7,0xc19bf174,
 0xe49b69c1,0xefbe4786,0x0fc19dc6,0x240ca1cc,0x2de92c6f,0x4a7484aa,0x5cb0a9dc,0x76f988da,
 0x983e5152,0xa831c66d,0xb00327c8,0xbf597fc7,0xc6e00bf3,0xd5a79147,0x06ca6351,0x14292967,
 0x27b70a85,0x2e1b2138,0x4d2c6dfc,0x53380d13,0x650a7354,0x766a0abb,0x81c2c92e,0x92722c85,
 0xa2bfe8a1,0xa81a664b,0xc24b8b70,0xc76c51a3,0xd192e819,0xd6990624,0xf40e3585,0x106aa070,
 0x19a4c116,0x1e376c08,0x2748774c,0x34b0bcb5,0x391c0cb3,0x4ed8aa4a,0x5b9cca4f,0x682e6ff3,
 0x748f82ee,0x78a5636f,0x84c87814,0x8cc70208,0x90befffa,0xa4506ceb,0xbef9a3f7,0xc67178f2]
structure St where
 (a b c d e f g h:BitVec 32)
def St.l (s:St):List (BitVec 32):=[s.a,s.b,s.c,s.d,s.e,s.f,s.g,s.h]
def St.t1 (s:St) (k w:BitVec 32):BitVec 32:=s.h + (rotr s.e 6 ^^^ rotr s.e 11 ^^^ rotr s.e 25) + (s.e &&& s.f ^^^ ~~~s.e &&& s.g) + k + w
def St.t2 (s:St):BitVec 32:=(rotr s.a 2 ^^^ rotr s.a 13 ^^^ rotr s.a 22) + (s.a &&& s.b ^^^ s.a &&& s.c ^^^ s.b &&& s.c)
def St.round (s:St) (k w:BitVec 32):St:=⟨s.t1 k w + s.t2,s.a,s.b,s.c,s.d + s.t1 k w,s.e,s.f,s.g⟩
def St.rounds (w:List (BitVec 32)) (s:St):Nat→St
 | 0=>s
 | t + 1=>(s.rounds w t).round (tab.getD t 0) (w.getD t 0)
def St.add (s v:St):St:=⟨s.a + v.a,s.b + v.b,s.c + v.c,s.d + v.d,s.e + v.e,s.f + v.f,s.g + v.g,s.h + v.h⟩
def St.take (s:St) (b:List (BitVec 8)):St:=s.add (s.rounds (words b 64) 64)
def St.cells (s:St):List V:=[U s.a,U s.b,U s.c,U s.d,U s.e,U s.f,U s.g,U s.h]
def St.part (s v:St) (t:Nat):List V:=(s.add v).cells.take t ++ s.cells.drop t
end Go.AM.Cap

/- sha: ShaB -/
namespace Go.AM.Cap
open Go.AM Go.Proofs
end Go.AM.Cap

/- sha: ShaC -/
namespace Go.AM.Cap
open Go.AM Go.Proofs
def zb7t (n:Nat):Nat:=(119 - n % 64) % 64
def be (w:BitVec 64) (j:Nat):List (BitVec 8):=(List.range j).map fun t=>(w >>> (8 * (7 - t))).setWidth 8
def pad (l:List (BitVec 8)):List (BitVec 8):=l ++ [128#8] ++ List.replicate (zb7t l.length) 0#8 ++ be (BitVec.ofNat 64 l.length * 8#64) 8
def St.run (s:St) (l:List (BitVec 8)):Nat→St
 | 0=>s
 | n + 1=>(s.run l n).take ((l.drop (64 * n)).take 64)
def St.init:St:=⟨0x6a09e667,0xbb67ae85,0x3c6ef372,0xa54ff53a,0x510e527f,0x9b05688c,0x1f83d9ab,0x5be0cd19⟩
def zb58 (x:BitVec 32):List (BitVec 8):=[(x >>> 24).setWidth 8,(x >>> 16).setWidth 8,(x >>> 8).setWidth 8,x.setWidth 8]
def St.bytes (s:St):List (BitVec 8):=s.l.flatMap zb58
def sum (l:List (BitVec 8)):List (BitVec 8):=(St.init.run (pad l) ((pad l).length / 64)).bytes
end Go.AM.Cap

/- sha: ShaD -/
namespace Go.AM.Cap
open Go.AM Go.Proofs
def Rest (H:Heap) (v:V) (l:List V):Prop:=(v = .slice none 0 0∧l=[])∨∃ b o c cs,v=slc b o 1 l.length c∧l.length≤c∧H.get b=some (.cells true cs)∧(l=[]∨(o + l.length≤cs.length∧(cs.drop o).take l.length=l))
theorem Rest.keep {S:List Nat} {H H':Heap} {v:V} {l:List V} (h:Rest H v l) (hk:Keeps S H H') (hn:∀ b∈vb v,b ∉ S):Rest H' v l:=by
 rcases h with h | ⟨b,o,c,cs,rfl,hc,hb,hl⟩
 ·exact .inl h
 ·exact .inr ⟨b,o,c,cs,rfl,hc,hk.get hb (hn b (by simp)),hl⟩
theorem Rest.len {H:Heap} {v:V} {l:List V} (h:Rest H v l):zw v=some (i64 l.length):=by
 rcases h with⟨rfl,rfl⟩ | ⟨b,o,c,cs,rfl,hc,hb,hl⟩ <;> rfl
theorem Rest.lt {H:Heap} {v:V} {l:List V} (h:Rest H v l):∀ b∈vb v,b < H.next:=by
 rcases h with⟨rfl,rfl⟩ | ⟨b,o,c,cs,rfl,hc,hb,hl⟩
 ·simp
 ·simpa using Heap.get_lt hb
theorem Own.rest {H:Heap} {v:V} {l:List V} (h:Own H v l):Rest H v l:=by
 rcases h with h | ⟨b,rfl,hb⟩
 ·exact .inl h
 ·exact .inr ⟨b,0,l.length,l,rfl,Nat.le_refl _,hb,.inr ⟨by omega,by simp⟩⟩
theorem Rest.cells {H:Heap} {v:V} {l:List V} (h:Rest H v l):zbf H 1 v=some l:=by
 rcases h with⟨rfl,rfl⟩ | ⟨b,o,c,cs,rfl,hc,hb,hl⟩
 ·rfl
 ·simp only[zbf]
  by_cases h0:l.length=0
  ·rw[if_pos h0,List.eq_nil_of_length_eq_zero h0]
  ·rw[if_neg h0]
   rcases hl with rfl | ⟨h1,h2⟩
   ·simp at h0
   ·simp[cellsAt,hb,h1,h2]
def zbka (H:Heap) (p:Nat) (s:St) (v:V) (long:Nat):Prop:=H.get p=some (.cells true (s.cells ++ [v,i64 long]))
theorem zbka.c8 {H:Heap} {p:Nat} {s:St} {v:V} {long:Nat} (h:zbka H p s v long):zsg H (ptr p 8)=some v:=by rw[z7z h];rfl
theorem zbka.len (s:St) (v w:V):(s.cells ++ [v,w]).length=10:=rfl
theorem zbka.lt {H:Heap} {p:Nat} {s:St} {v:V} {long:Nat} (h:zbka H p s v long):p < H.next:=Heap.get_lt h
theorem Rest.isOne {H:Heap} {v:V} {l:List V} (h:Rest H v l):v.isOne=true:=by
 rcases h with⟨rfl,rfl⟩ | ⟨b,o,c,cs,rfl,hc,hb,hl⟩ <;> rfl
def tail (l:List (BitVec 8)):List (BitVec 8):=l.drop (64 * (l.length / 64))
end Go.AM.Cap

/- sha: ShaE -/
namespace Go.AM.Cap
open Go.AM Go.Proofs
end Go.AM.Cap

/- sha: Sum, Hex -/
namespace Go.AM.Cap
open Go.AM Go.Proofs
theorem zb7u (x:BitVec 8):x &&& 15#8=BitVec.ofNat 8 (x.toNat % 16):=by revert x;decide
theorem shr4 (x:BitVec 8):x >>> 4=BitVec.ofNat 8 (x.toNat / 16):=by revert x;decide
theorem zb0x (x:BitVec 8):zu .and (B x) (.int .u8 15)=some (.int .u8 ((x.toNat % 16:Nat):Int)):=by
 have h:=b_lt x
 rw[show Value.int .u8 15=B 15#8 from rfl,zb5j,zb7u,← zb4e _ (by omega)]
theorem zb3t (x:BitVec 8) (k:IntKind):zu .shr (B x) (.int k 4)=some (.int .u8 ((x.toNat / 16:Nat):Int)):=by
 have h:=b_lt x
 rw[zb5k (by omega),show (4:Int).toNat=4 from rfl,shr4,← zb4e _ (by omega)]
theorem zbm1 (l:List (BitVec 8)) (b:BitVec 8):hexl (l ++ [b])=hexl l ++ [hexd (b.toNat / 16),hexd (b.toNat % 16)]:=by simp[hexl]
theorem zbm2 {α:Type} (l:List α) (i:Nat) (d:α) (h:i < l.length):l.take (i + 1)=l.take i ++ [l.getD i d]:=by
 rw[List.take_succ,List.getD_eq_getElem?_getD,List.getElem?_eq_getElem h];rfl
theorem zbus (H:Heap) (s:ByteArray) (hs:s.size≤1099511627776) (Q:V→Heap→Prop) (hQ:∀ H',Keeps [] H H'→Q (.string (sv (hexl (bv s)))) H'):wp (z72 [.string s]) Q H:=by
 have hbl:=zci s
 show wp (zbfl (.string s)) Q H
 (try simp (maxSteps:=999999) (disch:=try exact ZD) only[Z1,zbfl])
 refine zd6 (Inv:=fun k vs H'=>∃ (i:Nat) (v:V),k=s.size - i∧i≤s.size∧vs=[.string s,v,i64 s.size,i64 i]∧Own H' v ((hexl ((bv s).take i)).map B)∧Keeps [] H H'∧∀ x∈vb v,H.next≤x) (n:=s.size) (by unfold zbm;omega)
  ⟨0,_,by omega,by omega,rfl,Own.nil _,Keeps.refl _ _,by simp⟩ ?_
 rintro k vs H' ⟨i,v,hk,hi,rfl,ho,hke,hf⟩
 have hlen:((hexl ((bv s).take i)).map B).length=2 * i:=by rw[List.length_map,z4m,List.length_take];omega
 by_cases h:i < s.size
 ·have hb:=b_lt ((bv s).getD i 0)
  (try simp (maxSteps:=999999) (disch:=try exact ZD) only[Z1,zbbj,zbjg,ztb,Int.toNat_natCast,zb0x,zb3t,zbig])
  refine zbzi (new:=[B (hexd (((bv s).getD i 0).toNat / 16)),B (hexd (((bv s).getD i 0).toNat % 16))]) ho (by rfl) (by rfl) (by omega) (by rfl) (by rfl) (by rw[hlen];simp;omega) (by rw[hlen];simp;omega) fun c H3 o3 k3 f3=>?_
  (try simp (maxSteps:=999999) (disch:=try exact ZD) only[Z1,zbjf])
  refine⟨s.size - (i + 1),by omega,i + 1,_,rfl,by omega,rfl,?_,hke.trans k3 (fun b hb hm=>by have:=hf b hm;omega),fun x hx=>by simp at hx;have:=hke.next;omega⟩
  rw[zbm2 _ _ 0 (by omega),zbm1,List.map_append]
  exact o3
 ·have:i=s.size:=by omega
  subst this
  (try simp (maxSteps:=999999) (disch:=try exact ZD) only[Z1,zbbj,zbjh])
  refine zbnr ho ?_
  rw[List.take_of_length_le (by omega)]
  (try simp (maxSteps:=999999) (disch:=try exact ZD) only[Z1])
  exact hQ _ hke
theorem zbpa (H:Heap) (s:ByteArray) (hs:s.size≤1099511627776) (Q:V→Heap→Prop) (hQ:∀ H',Keeps [] H H'→Q (.string (sv (hexl (bv s)))) H'):wp (zyr [.string s]) Q H:=by
 have hbl:=zci s
 show wp (z7a (.string s)) Q H
 (try simp (maxSteps:=999999) (disch:=try exact ZD) only[Z1,z7a])
 generalize hdig:Value.string ⟨#[48,49,50,51,52,53,54,55,56,57,97,98,99,100,101,102]⟩=dig
 have hd:∀ (k:IntKind) (n:Nat),n < 16→zjm dig (.int k (n:Int))=some (B (hexd n)):=fun k n h=>by rw[← hdig];exact zbig h
 refine zd6 (Inv:=fun k vs H'=>∃ (i:Nat) (v:V),k=s.size - i∧i≤s.size∧vs=[.string s,dig,v,i64 i]∧Own H' v ((hexl ((bv s).take i)).map B)∧Keeps [] H H'∧∀ x∈vb v,H.next≤x) (n:=s.size) (by unfold zbm;omega)
  ⟨0,_,by omega,by omega,rfl,Own.nil _,Keeps.refl _ _,by simp⟩ ?_
 rintro k vs H' ⟨i,v,hk,hi,rfl,ho,hke,hf⟩
 have hlen:((hexl ((bv s).take i)).map B).length=2 * i:=by rw[List.length_map,z4m,List.length_take];omega
 by_cases h:i < s.size
 ·have hb:=b_lt ((bv s).getD i 0)
  have e1:(((bv s).getD i 0).toNat:Int) / 16=((((bv s).getD i 0).toNat / 16:Nat):Int):=by omega
  have e2:(((bv s).getD i 0).toNat:Int) % 16=((((bv s).getD i 0).toNat % 16:Nat):Int):=by omega
  (try simp (maxSteps:=999999) (disch:=try exact ZD) only[Z1,z2e,zbdw,ztb,zbqk,zbqj,zb4d,Int.toNat_natCast,e1,e2,hd])
  refine zbzi (new:=[B (hexd (((bv s).getD i 0).toNat / 16)),B (hexd (((bv s).getD i 0).toNat % 16))]) ho (by rfl) (by rfl) (by omega) (by rfl) (by rfl) (by rw[hlen];simp;omega) (by rw[hlen];simp;omega) fun c H3 o3 k3 f3=>?_
  (try simp (maxSteps:=999999) (disch:=try exact ZD) only[Z1,zbdv])
  refine⟨s.size - (i + 1),by omega,i + 1,_,rfl,by omega,rfl,?_,hke.trans k3 (fun b hb hm=>by have:=hf b hm;omega),fun x hx=>by simp at hx;have:=hke.next;omega⟩
  rw[zbm2 _ _ 0 (by omega),zbm1,List.map_append]
  exact o3
 ·have:i=s.size:=by omega
  subst this
  (try simp (maxSteps:=999999) (disch:=try exact ZD) only[Z1,z2e,zbdx])
  refine zbnr ho ?_
  rw[List.take_of_length_le (by omega)]
  (try simp (maxSteps:=999999) (disch:=try exact ZD) only[Z1])
  exact hQ _ hke
end Go.AM.Cap
