import Derived.Test.YtjchglndancedaaGreatDoorCgSa
import Derived.Test.YtjchglndancedaaGreatDoorAmIn
set_option linter.all false
/- conf, the document's Show: loops over points and grants -/
set_option maxHeartbeats 16000000
namespace Go.AM.Cap
open Go.AM Go.Proofs
variable {H0 H:Heap} {L:List Thing}
theorem zgl {i:Int} (h:zh5 i):zd5 i:=⟨by have:=h.1;omega,by have:=h.2;omega⟩
theorem zb6l {b P:Nat} {v:V} {l:List UInt8} {x:SyV} {s:Sy} (hs:SysAt H0 x s) (hty:∀ p∈s.pts,1≤p.typ∧p.typ≤3) (hn:s.pts.length≤64) (hl:l.length≤1000000000) (h:Hp H0 H (dwr b v l :: cel P (x.cs s) :: L)) (Q:Out→Heap→Prop)
  (hQ:∀ v' H',Hp H0 H' (dwr b v' (l ++ s.pts.flatMap zr7) :: cel P (x.cs s) :: L)→Q (.brk 0 [ptr b 0,ptr P 0]) H') :
  wp (zba zbm ze1 [ptr b 0,ptr P 0,i64 0]) Q H:=by
 have l0:=hs.pts.len
 have c0:(x.cs s)[0]? = some x.pv:=rfl
 refine zbo s.pts.length (by omega) (fun j vs H'=>∃ v',vs=[ptr b 0,ptr P 0,i64 j]∧Hp H0 H' (dwr b v' (l ++ (s.pts.take j).flatMap zr7) :: cel P (x.cs s) :: L)) ⟨v,rfl,by simpa using h⟩ ?_
 rintro j vs H1 hj ⟨v1,rfl,s1⟩
 have g1:=s1.get (i:=1) rfl
 by_cases hlt:j < s.pts.length
 case neg =>
  have:j=s.pts.length:=by omega
  subst this
  rw[List.take_length] at s1
  (try simp (maxSteps:=999999) (disch:=try exact ZD) only[ZB,ze1,g1,c0,l0])
  exact hQ v1 H1 s1
 have hp:=s1.ro hs.pts
 have a1:=hp.addr' (n:=2) rfl (k := .i64) (i:=j) (by omega) (by omega)
 rw[Int.toNat_natCast] at a1
 have e0:=fun {K:Heap} (hK:Keeps [] H1 K)=>(hp.keep0 hK).cell' (n:=2) rfl (off:=0) hlt (by omega) default
 have e1:=hp.cell' (n:=2) rfl (off:=1) hlt (by omega) default
 simp only[zbd,Nat.add_zero] at e0 e1
 have hty1:=hty _ (zbh (d:=default) hlt)
 have hacc:((s.pts.take j).flatMap zr7).length≤60000 * (s.pts.take j).length:=zby fun p hp=>z2n (hty p (List.mem_of_mem_take hp))
 have htl:(s.pts.take j).length=j:=by rw[List.length_take];omega
 rw[htl] at hacc
 rw[zc2 (d:=default) hlt]
 simp only[List.flatMap_append,List.flatMap_cons,List.flatMap_nil,List.append_nil]
 generalize s.pts.getD j default=p at *
 obtain⟨ty,out⟩:=p
 simp only at hty1
 have f0:(Flat.enc (⟨ty,out⟩:Pt))[0]? = some (i64 ty):=rfl
 have f1:(Flat.enc (⟨ty,out⟩:Pt))[1]? = some (.bool out):=rfl
 rw[f0] at e0
 rw[f1] at e1
 have e0':=e0 (Keeps.refl _ _)
 have hbody:∀ (k:ByteArray),k=(if out then kOut else kIn)→∀ R:Out→Heap→Prop,(∀ v' H',Hp H0 H' (dwr b v' (l ++ ((s.pts.take j).flatMap zr7 ++ zr7 ⟨ty,out⟩)) :: cel P (x.cs s) :: L)→R (.nxt [ptr b 0,ptr P 0,i64 j]) H')→wp (zj6 [ptr b 0,ptr P 0,i64 j,.string k]) R H1:=by
  intro k hk R hR
  (try simp (maxSteps:=999999) (disch:=try exact ZD) only[ZB,zj6,g1,c0,a1,e0'])
  refine zbke _ fun w H2 k2 o2=>?_
  have s2:=s1.keep0 k2
  have g2:=s2.get (i:=1) rfl
  have ck:zie (zes (H2.get P) 0) x.pv=true:=by rw[g2];exact zi3 hs.pts
  have e2:=e0 k2
  obtain⟨t1,t2⟩:=zbph o2 hty1.1 hty1.2
  (try simp (maxSteps:=999999) (disch:=try exact ZD) only[ZB,t1,t2])
  refine znv [.s (zxs ty)] s2 (by decide) (by rfl) (by subst hk;cases out <;> decide) (fun d hd=>by
   simp only[List.mem_cons,List.not_mem_nil,or_false] at hd
   subst hd
   exact zkw hty1.1 hty1.2) (by simp) rfl (by simp only[List.length_append];omega) _ fun v' H3 s3=>?_
  (try simp (maxSteps:=999999) (disch:=try exact ZD) only[ZB,ck,e2])
  rw[List.append_assoc] at s3
  subst hk
  exact hR v' H3 s3
 cases out
 ·(try simp (maxSteps:=999999) (disch:=try exact ZD) only[ZB,ze1,zj8,g1,c0,l0,a1,e1])
  refine hbody _ rfl _ fun v' H3 s3=>?_
  (try simp (maxSteps:=999999) (disch:=try exact ZD) only[ZB,zj7])
  exact⟨hlt,v',rfl,s3⟩
 ·(try simp (maxSteps:=999999) (disch:=try exact ZD) only[ZB,ze1,zj8,g1,c0,l0,a1,e1])
  refine hbody _ rfl _ fun v' H3 s3=>?_
  (try simp (maxSteps:=999999) (disch:=try exact ZD) only[ZB,zj7])
  exact⟨hlt,v',rfl,s3⟩
theorem zb6m {b P:Nat} {v:V} {l:List UInt8} {x:SyV} {s:Sy} (hs:SysAt H0 x s) (hg:∀ g∈s.grs,zh5 g.part∧zh5 g.point) (hn:s.grs.length≤1000) (hl:l.length≤1000000000) (h:Hp H0 H (dwr b v l :: cel P (x.cs s) :: L)) (Q:Out→Heap→Prop)
  (hQ:∀ v' H',Hp H0 H' (dwr b v' (l ++ s.grs.flatMap zr8) :: cel P (x.cs s) :: L)→Q (.brk 2 [ptr b 0,ptr P 0]) H') :
  wp (zba zbm ze2 [ptr b 0,ptr P 0,i64 0]) Q H:=by
 have l0:=hs.grs.len
 have c0:(x.cs s)[1]? = some x.gv:=rfl
 refine zbo s.grs.length (by omega) (fun j vs H'=>∃ v',vs=[ptr b 0,ptr P 0,i64 j]∧Hp H0 H' (dwr b v' (l ++ (s.grs.take j).flatMap zr8) :: cel P (x.cs s) :: L)) ⟨v,rfl,by simpa using h⟩ ?_
 rintro j vs H1 hj ⟨v1,rfl,s1⟩
 have g1:=s1.get (i:=1) rfl
 by_cases hlt:j < s.grs.length
 case neg =>
  have:j=s.grs.length:=by omega
  subst this
  rw[List.take_length] at s1
  (try simp (maxSteps:=999999) (disch:=try exact ZD) only[ZB,ze2,g1,c0,l0])
  exact hQ v1 H1 s1
 have hp:=s1.ro hs.grs
 have a1:=hp.addr' (n:=3) rfl (k := .i64) (i:=j) (by omega) (by omega)
 rw[Int.toNat_natCast] at a1
 have e0:=hp.cell' (n:=3) rfl (off:=0) hlt (by omega) default
 have e1:=fun {K:Heap} (hK:Keeps [] H1 K)=>(hp.keep0 hK).cell' (n:=3) rfl (off:=1) hlt (by omega) default
 have e2:=hp.cell' (n:=3) rfl (off:=2) hlt (by omega) default
 simp only[zbd,Nat.add_zero] at e0 e1 e2
 have hg1:=hg _ (zbh (d:=default) hlt)
 have hacc:((s.grs.take j).flatMap zr8).length≤60000 * (s.grs.take j).length:=zby fun p hp=>z2o (by have:=hg p (List.mem_of_mem_take hp);exact⟨zgl this.1,zgl this.2⟩)
 have htl:(s.grs.take j).length=j:=by rw[List.length_take];omega
 rw[htl] at hacc
 rw[zc2 (d:=default) hlt]
 simp only[List.flatMap_append,List.flatMap_cons,List.flatMap_nil,List.append_nil]
 generalize s.grs.getD j default=g at *
 obtain⟨pa,po,wr⟩:=g
 simp only at hg1
 have f0:(Flat.enc (⟨pa,po,wr⟩:Gr))[0]? = some (i64 pa):=rfl
 have f1:(Flat.enc (⟨pa,po,wr⟩:Gr))[1]? = some (i64 po):=rfl
 have f2:(Flat.enc (⟨pa,po,wr⟩:Gr))[2]? = some (.bool wr):=rfl
 rw[f0] at e0
 rw[f1] at e1
 rw[f2] at e2
 have e1':=e1 (Keeps.refl _ _)
 obtain⟨q1,q2⟩:=hg1
 have w1:=zgl q1
 have w2:=zgl q2
 have hbody:∀ (k:ByteArray),k=(if wr then zs5 else zbr4)→∀ R:Out→Heap→Prop,(∀ v' H',Hp H0 H' (dwr b v' (l ++ ((s.grs.take j).flatMap zr8 ++ zr8 ⟨pa,po,wr⟩)) :: cel P (x.cs s) :: L)→R (.nxt [ptr b 0,ptr P 0,i64 j]) H')→wp (zj9 [ptr b 0,ptr P 0,i64 j,.string k]) R H1:=by
  intro k hk R hR
  (try simp (maxSteps:=999999) (disch:=try exact ZD) only[ZB,zj9,g1,c0,a1,e0,e1'])
  refine zil pa q1.1 w1.2 _ fun H2 k2=>?_
  have s2:=s1.keep0 k2
  have g2:=s2.get (i:=1) rfl
  have ck:zie (zes (H2.get P) 1) x.gv=true:=by rw[g2];exact zi3 hs.grs
  have e2:=e1 k2
  (try simp (maxSteps:=999999) (disch:=try exact ZD) only[ZB])
  refine zil po q2.1 w2.2 _ fun H3 k3=>?_
  have s3:=s2.keep0 k3
  (try simp (maxSteps:=999999) (disch:=try exact ZD) only[ZB])
  refine znv [.n pa,.n po] s3 (by decide) (by rfl) (by subst hk;cases wr <;> decide) (fun d hd=>by
   simp only[List.mem_cons,List.not_mem_nil,or_false] at hd
   rcases hd with rfl | rfl
   ·exact w1
   ·exact w2) (by simp) rfl (by simp only[List.length_append];omega) _ fun v' H3 s3=>?_
  (try simp (maxSteps:=999999) (disch:=try exact ZD) only[ZB,ck,e2])
  rw[List.append_assoc] at s3
  subst hk
  exact hR v' H3 s3
 cases wr
 ·(try simp (maxSteps:=999999) (disch:=try exact ZD) only[ZB,ze2,zkb,g1,c0,l0,a1,e2])
  refine hbody _ rfl _ fun v' H3 s3=>?_
  (try simp (maxSteps:=999999) (disch:=try exact ZD) only[ZB,zka])
  exact⟨hlt,v',rfl,s3⟩
 ·(try simp (maxSteps:=999999) (disch:=try exact ZD) only[ZB,ze2,zkb,g1,c0,l0,a1,e2])
  refine hbody _ rfl _ fun v' H3 s3=>?_
  (try simp (maxSteps:=999999) (disch:=try exact ZD) only[ZB,zka])
  exact⟨hlt,v',rfl,s3⟩
end Go.AM.Cap

/- conf, the document's Show: loops over ports and windows -/
set_option maxHeartbeats 16000000
namespace Go.AM.Cap
open Go.AM Go.Proofs
variable {H0 H:Heap} {L:List Thing}
theorem zb6n {b P:Nat} {v:V} {l:List UInt8} {x:SyV} {s:Sy} (hs:SysAt H0 x s) (hg:∀ q∈s.prs,zh5 q.src∧zh5 q.dst∧zh5 q.cap∧1≤q.typ∧q.typ≤3) (hn:s.prs.length≤1000) (hl:l.length≤1000000000) (h:Hp H0 H (dwr b v l :: cel P (x.cs s) :: L)) (Q:Out→Heap→Prop)
  (hQ:∀ v' H',Hp H0 H' (dwr b v' (l ++ s.prs.flatMap zkh) :: cel P (x.cs s) :: L)→Q (.brk 4 [ptr b 0,ptr P 0]) H') :
  wp (zba zbm zek [ptr b 0,ptr P 0,i64 0]) Q H:=by
 have l0:=hs.prs.len
 have c0:(x.cs s)[2]? = some x.qv:=rfl
 refine zbo s.prs.length (by omega) (fun j vs H'=>∃ v',vs=[ptr b 0,ptr P 0,i64 j]∧Hp H0 H' (dwr b v' (l ++ (s.prs.take j).flatMap zkh) :: cel P (x.cs s) :: L)) ⟨v,rfl,by simpa using h⟩ ?_
 rintro j vs H1 hj ⟨v1,rfl,s1⟩
 have g1:=s1.get (i:=1) rfl
 by_cases hlt:j < s.prs.length
 case neg =>
  have:j=s.prs.length:=by omega
  subst this
  rw[List.take_length] at s1
  (try simp (maxSteps:=999999) (disch:=try exact ZD) only[ZB,zek,g1,c0,l0])
  exact hQ v1 H1 s1
 have hp:=s1.ro hs.prs
 have a1:=hp.addr' (n:=5) rfl (k := .i64) (i:=j) (by omega) (by omega)
 rw[Int.toNat_natCast] at a1
 have d1:=fun Q=>hp.ldn' (Q:=Q) (n:=5) rfl hlt default
 have hg1:=hg _ (zbh (d:=default) hlt)
 have hacc:((s.prs.take j).flatMap zkh).length≤60000 * (s.prs.take j).length:=zby fun p hp=>z2p (by
  obtain⟨q1,q2,q3,q4⟩:=hg p (List.mem_of_mem_take hp)
  exact⟨zgl q1,zgl q2,zgl q3,q4⟩)
 have htl:(s.prs.take j).length=j:=by rw[List.length_take];omega
 rw[htl] at hacc
 rw[zc2 (d:=default) hlt]
 simp only[List.flatMap_append,List.flatMap_cons,List.flatMap_nil,List.append_nil]
 generalize s.prs.getD j default=g at *
 obtain⟨ki,sr,ds,ty,ca⟩:=g
 simp only at hg1
 obtain⟨q1,q2,q3,q4,q5⟩:=hg1
 have w1:=zgl q1
 have w2:=zgl q2
 have w3:=zgl q3
 have s2:Hp H0 (H1.push (some (.cells true [i64 ki,i64 sr,i64 ds,i64 ty,i64 ca]))) (dwr b v1 (l ++ (s.prs.take j).flatMap zkh) :: cel H1.next [i64 ki,i64 sr,i64 ds,i64 ty,i64 ca] :: cel P (x.cs s) :: L):=znu (s1.newc _)
 by_cases hk:ki=1
 ·have hx:decide (ki=1)=true:=decide_eq_true hk
  (try simp (maxSteps:=999999) (disch:=try exact ZD) only[ZA,zo,zn,zm,zk,zi,zj,zg,ze,zek,zkd,g1,c0,l0,a1,d1,zxn,hx])
  generalize hH2:H1.push (some (.cells true [i64 ki,i64 sr,i64 ds,i64 ty,i64 ca]))=H2 at *
  generalize H1.next=X at *
  have gX:=s2.get (i:=1) rfl
  (try simp (maxSteps:=999999) (disch:=try exact ZD) only[ZB,gX])
  refine zil sr q1.1 w1.2 _ fun H3 k3=>?_
  have s3:=s2.keep0 k3
  have g3:=s3.get (i:=1) rfl
  (try simp (maxSteps:=999999) (disch:=try exact ZD) only[ZB])
  refine zil ds q2.1 w2.2 _ fun H4 k4=>?_
  have s4:=s3.keep0 k4
  have g4:=s4.get (i:=1) rfl
  (try simp (maxSteps:=999999) (disch:=try exact ZD) only[ZB])
  refine zbke _ fun w H5 k5 o5=>?_
  have s5:=s4.keep0 k5
  have g5:=s5.get (i:=1) rfl
  obtain⟨t1,t2⟩:=zbph o5 q4 q5
  (try simp (maxSteps:=999999) (disch:=try exact ZD) only[ZB,t1,t2])
  refine znv [.n sr,.n ds,.s (zxs ty)] s5 (by decide) (by rfl) (by decide) (fun d hd=>by
   simp only[List.mem_cons,List.not_mem_nil,or_false] at hd
   rcases hd with rfl | rfl | rfl
   ·exact w1
   ·exact w2
   ·exact zkw q4 q5) (by simp) rfl (by simp only[List.length_append];omega) _ fun v' H6 s6=>?_
  (try simp (maxSteps:=999999) (disch:=try exact ZD) only[ZB,g3,g4,g5,zkc])
  exact⟨hlt,v',rfl,by
   have s7:=zm5 s6
   rw[List.append_assoc] at s7
   rw[zkh,if_pos hk]
   exact s7⟩
 ·have hx:decide (ki=1)=false:=decide_eq_false hk
  (try simp (maxSteps:=999999) (disch:=try exact ZD) only[ZA,zo,zn,zm,zk,zi,zj,zg,ze,zek,zkd,g1,c0,l0,a1,d1,zxn,hx])
  generalize hH2:H1.push (some (.cells true [i64 ki,i64 sr,i64 ds,i64 ty,i64 ca]))=H2 at *
  generalize H1.next=X at *
  have gX:=s2.get (i:=1) rfl
  (try simp (maxSteps:=999999) (disch:=try exact ZD) only[ZB,gX])
  refine zil sr q1.1 w1.2 _ fun H3 k3=>?_
  have s3:=s2.keep0 k3
  have g3:=s3.get (i:=1) rfl
  (try simp (maxSteps:=999999) (disch:=try exact ZD) only[ZB])
  refine zil ds q2.1 w2.2 _ fun H4 k4=>?_
  have s4:=s3.keep0 k4
  have g4:=s4.get (i:=1) rfl
  (try simp (maxSteps:=999999) (disch:=try exact ZD) only[ZB])
  refine zbke _ fun w H5 k5 o5=>?_
  have s5:=s4.keep0 k5
  have g5:=s5.get (i:=1) rfl
  obtain⟨t1,t2⟩:=zbph o5 q4 q5
  (try simp (maxSteps:=999999) (disch:=try exact ZD) only[ZB,t1,t2])
  refine zil ca q3.1 w3.2 _ fun H6 k6=>?_
  have s6:=s5.keep0 k6
  have g6:=s6.get (i:=1) rfl
  obtain⟨t3,t4⟩:=zbph (o5.keep0 k6) q4 q5
  (try simp (maxSteps:=999999) (disch:=try exact ZD) only[ZB])
  refine znv [.n sr,.n ds,.s (zxs ty),.n ca] s6 (by decide) (by rfl) (by decide) (fun d hd=>by
   simp only[List.mem_cons,List.not_mem_nil,or_false] at hd
   rcases hd with rfl | rfl | rfl | rfl
   ·exact w1
   ·exact w2
   ·exact zkw q4 q5
   ·exact w3) (by simp) rfl (by simp only[List.length_append];omega) _ fun v' H7 s7=>?_
  (try simp (maxSteps:=999999) (disch:=try exact ZD) only[ZB,g3,g4,g5,g6,t4,zkc])
  exact⟨hlt,v',rfl,by
   have s8:=zm5 s7
   rw[List.append_assoc] at s8
   rw[zkh,if_neg hk]
   exact s8⟩
theorem zb30 {b P:Nat} {v:V} {l:List UInt8} {x:SyV} {s:Sy} (hs:SysAt H0 x s) (hg:∀ w∈s.wins,(w.part = -1∨zh5 w.part)∧zh5 w.start∧zh5 w.len) (hn:s.wins.length≤1000) (hl:l.length≤1000000000) (h:Hp H0 H (dwr b v l :: cel P (x.cs s) :: L)) (Q:Out→Heap→Prop)
  (hQ:∀ v' H',Hp H0 H' (dwr b v' (l ++ s.wins.flatMap zki) :: cel P (x.cs s) :: L)→Q (.brk 6 [ptr b 0,ptr P 0]) H') :
  wp (zba zbm zel [ptr b 0,ptr P 0,i64 0]) Q H:=by
 have l0:=hs.wins.len
 have c0:(x.cs s)[4]? = some x.wv:=rfl
 refine zbo s.wins.length (by omega) (fun j vs H'=>∃ v',vs=[ptr b 0,ptr P 0,i64 j]∧Hp H0 H' (dwr b v' (l ++ (s.wins.take j).flatMap zki) :: cel P (x.cs s) :: L)) ⟨v,rfl,by simpa using h⟩ ?_
 rintro j vs H1 hj ⟨v1,rfl,s1⟩
 have g1:=s1.get (i:=1) rfl
 by_cases hlt:j < s.wins.length
 case neg =>
  have:j=s.wins.length:=by omega
  subst this
  rw[List.take_length] at s1
  (try simp (maxSteps:=999999) (disch:=try exact ZD) only[ZB,zel,g1,c0,l0])
  exact hQ v1 H1 s1
 have hp:=s1.ro hs.wins
 have a1:=hp.addr' (n:=3) rfl (k := .i64) (i:=j) (by omega) (by omega)
 rw[Int.toNat_natCast] at a1
 have d1:=fun Q=>hp.ldn' (Q:=Q) (n:=3) rfl hlt default
 have hg1:=hg _ (zbh (d:=default) hlt)
 have h64:∀ w:Win,((w.part = -1∨zh5 w.part)∧zh5 w.start∧zh5 w.len)→zd5 w.part∧zd5 w.start∧zd5 w.len:=fun w hw=>⟨by
  rcases hw.1 with q | q
  ·exact⟨by omega,by omega⟩
  ·exact zgl q,zgl hw.2.1,zgl hw.2.2⟩
 have hacc:((s.wins.take j).flatMap zki).length≤60000 * (s.wins.take j).length:=zby fun p hp=>z2q (h64 p (hg p (List.mem_of_mem_take hp)))
 have htl:(s.wins.take j).length=j:=by rw[List.length_take];omega
 rw[htl] at hacc
 rw[zc2 (d:=default) hlt]
 simp only[List.flatMap_append,List.flatMap_cons,List.flatMap_nil,List.append_nil]
 have w0:=h64 _ hg1
 generalize s.wins.getD j default=g at *
 obtain⟨pa,st,le⟩:=g
 simp only at hg1 w0
 obtain⟨q1,q2,q3⟩:=hg1
 obtain⟨w1,w2,w3⟩:=w0
 have s2:Hp H0 (H1.push (some (.cells true [i64 pa,i64 st,i64 le]))) (dwr b v1 (l ++ (s.wins.take j).flatMap zki) :: cel H1.next [i64 pa,i64 st,i64 le] :: cel P (x.cs s) :: L):=znu (s1.newc _)
 by_cases hk:pa < 0
 ·have hx:decide (pa < 0)=true:=decide_eq_true hk
  (try simp (maxSteps:=999999) (disch:=try exact ZD) only[ZA,zo,zn,zm,zk,zi,zj,zg,ze,zel,zjk,g1,c0,l0,a1,d1,zgj,hx])
  generalize hH2:H1.push (some (.cells true [i64 pa,i64 st,i64 le]))=H2 at *
  generalize H1.next=X at *
  have gX:=s2.get (i:=1) rfl
  (try simp (maxSteps:=999999) (disch:=try exact ZD) only[ZB,gX])
  refine zil st q2.1 w2.2 _ fun H3 k3=>?_
  have s3:=s2.keep0 k3
  have g3:=s3.get (i:=1) rfl
  (try simp (maxSteps:=999999) (disch:=try exact ZD) only[ZB])
  refine zil le q3.1 w3.2 _ fun H4 k4=>?_
  have s4:=s3.keep0 k4
  (try simp (maxSteps:=999999) (disch:=try exact ZD) only[ZB])
  refine znv [.n st,.n le] s4 (by decide) (by rfl) (by decide) (fun d hd=>by
   simp only[List.mem_cons,List.not_mem_nil,or_false] at hd
   rcases hd with rfl | rfl
   ·exact w2
   ·exact w3) (by simp) rfl (by simp only[List.length_append];omega) _ fun v' H6 s6=>?_
  (try simp (maxSteps:=999999) (disch:=try exact ZD) only[ZB,g3,zjj])
  exact⟨hlt,v',rfl,by
   have s7:=zm5 s6
   rw[List.append_assoc] at s7
   rw[zki,if_pos hk]
   exact s7⟩
 ·have hx:decide (pa < 0)=false:=decide_eq_false hk
  (try simp (maxSteps:=999999) (disch:=try exact ZD) only[ZA,zo,zn,zm,zk,zi,zj,zg,ze,zel,zjk,g1,c0,l0,a1,d1,zgj,hx])
  generalize hH2:H1.push (some (.cells true [i64 pa,i64 st,i64 le]))=H2 at *
  generalize H1.next=X at *
  have gX:=s2.get (i:=1) rfl
  (try simp (maxSteps:=999999) (disch:=try exact ZD) only[ZB,gX])
  refine zil pa (by omega) w1.2 _ fun H3 k3=>?_
  have s3:=s2.keep0 k3
  have g3:=s3.get (i:=1) rfl
  (try simp (maxSteps:=999999) (disch:=try exact ZD) only[ZB])
  refine zil st q2.1 w2.2 _ fun H4 k4=>?_
  have s4:=s3.keep0 k4
  have g4:=s4.get (i:=1) rfl
  (try simp (maxSteps:=999999) (disch:=try exact ZD) only[ZB])
  refine zil le q3.1 w3.2 _ fun H5 k5=>?_
  have s5:=s4.keep0 k5
  (try simp (maxSteps:=999999) (disch:=try exact ZD) only[ZB])
  refine znv [.n pa,.n st,.n le] s5 (by decide) (by rfl) (by decide) (fun d hd=>by
   simp only[List.mem_cons,List.not_mem_nil,or_false] at hd
   rcases hd with rfl | rfl | rfl
   ·exact w1
   ·exact w2
   ·exact w3) (by simp) rfl (by simp only[List.length_append];omega) _ fun v' H6 s6=>?_
  (try simp (maxSteps:=999999) (disch:=try exact ZD) only[ZB,g3,g4,zjj])
  exact⟨hlt,v',rfl,by
   have s7:=zm5 s6
   rw[List.append_assoc] at s7
   rw[zki,if_neg hk]
   exact s7⟩
end Go.AM.Cap
