import Derived.Test.YtjchglndancedaaGreatDoorCfBp
import Derived.Test.YtjchglndancedaaGreatDoorAmIn
set_option linter.all false
/- conf: the loops over grants, ports, windows -/
set_option maxHeartbeats 8000000
namespace Go.AM.Cap
open Go.AM Go.Proofs
variable {H0 H:Heap} {L:List Thing}
def zd5 (n:Int):Prop:=-9223372036854775808≤n∧n≤9223372036854775807
theorem zb54 {b P:Nat} {bf:Option Nat} {l:List UInt8} {x:SyV} {s:Sy} (hP:zn4 H0) (hs:SysAt H0 x s) (hg:∀ g∈s.grs,zd5 g.part∧zd5 g.point) (hn:s.grs.length≤1000) (hl:l.length≤1000000000) (h:Hp H0 H (wrt b bf l :: cel P (x.cs s) :: L)) (Q:Out→Heap→Prop)
  (hQ:∀ bf' H',Hp H0 H' (wrt b bf' (l ++ s.grs.flatMap zr8) :: cel P (x.cs s) :: L)→Q (.brk 2 [ptr b 0,ptr P 0]) H') :
  wp (zba zbm (zhw zku zgq zkv) [ptr b 0,ptr P 0,x.gv,i64 s.grs.length,i64 0]) Q H:=by
 refine zbo s.grs.length (by omega) (fun j vs H'=>∃ bf',vs=[ptr b 0,ptr P 0,x.gv,i64 s.grs.length,i64 j]∧Hp H0 H' (wrt b bf' (l ++ (s.grs.take j).flatMap zr8) :: cel P (x.cs s) :: L)) ⟨bf,rfl,by simpa using h⟩ ?_
 rintro j vs H1 hj ⟨bf1,rfl,s1⟩
 by_cases hlt:j < s.grs.length
 case neg =>
  have:j=s.grs.length:=by omega
  subst this
  rw[List.take_length] at s1
  (try simp (maxSteps:=999999) (disch:=try exact ZD) only[ZB,zhw])
  exact hQ bf1 H1 s1
 have hp:=s1.ro hs.grs
 have a1:=hp.addr' (n:=3) rfl (k := .i64) (i:=j) (by omega) (by omega)
 rw[Int.toNat_natCast] at a1
 have d1:=fun Q=>hp.ldn' (Q:=Q) (n:=3) rfl hlt default
 have hg1:=hg _ (zbh (d:=default) hlt)
 have hacc:((s.grs.take j).flatMap zr8).length≤60000 * (s.grs.take j).length:=zby fun p hp=>zc7 (by cases p.write <;> decide) (fun d hd=>by
  have:=hg p (List.mem_of_mem_take hp)
  simp only[List.mem_cons,List.not_mem_nil,or_false] at hd
  rcases hd with rfl | rfl
  ·exact this.1
  ·exact this.2) (by simp)
 have htl:(s.grs.take j).length=j:=by rw[List.length_take];omega
 rw[htl] at hacc
 rw[zc2 (d:=default) hlt]
 simp only[List.flatMap_append,List.flatMap_cons,List.flatMap_nil,List.append_nil]
 generalize s.grs.getD j default=g at *
 obtain⟨pa,po,wr⟩:=g
 simp only at hg1
 (try simp (maxSteps:=999999) (disch:=try exact ZD) only[ZA,zo,zn,zm,zk,zi,zj,zg,ze,zhw,zsl,a1,d1,zxm])
 have s2:Hp H0 (H1.push (some (.cells true [i64 pa,i64 po,.bool wr]))) (wrt b bf1 (l ++ (s.grs.take j).flatMap zr8) :: cel H1.next [i64 pa,i64 po,.bool wr] :: cel P (x.cs s) :: L):=znu (s1.newc _)
 generalize hH2:H1.push (some (.cells true [i64 pa,i64 po,.bool wr]))=H2 at *
 generalize H1.next=X at *
 have g2:=s2.get (i:=1) rfl
 have kp:Keeps [] H2 (H2.push none):=Keeps.push _ _ _
 have gn:(H2.push none).get H2.next=none:=Heap.get_push_self _ _
 have ln:H2.next < (H2.push none).next:=by simp
 have gX:=kp.get g2 (by simp)
 rw[zpw,z4o]
 (try simp (maxSteps:=999999) (disch:=try exact ZD) only[ZB,gX,z79,zlt (bs:=[]) gn ln,Bool.and_true])
 refine ztv (cs:=zbj [Wd.n pa,Wd.n po]) gn ln (by decide) (by rfl) ?_
 rw[Heap.set_push_eq rfl]
 (try simp (maxSteps:=999999) (disch:=try exact ZD) only[ZB])
 refine znt [.n pa,.n po] hP s2 (by cases wr <;> decide) (fun d hd=>by
  simp only[List.mem_cons,List.not_mem_nil,or_false] at hd
  rcases hd with rfl | rfl
  ·exact hg1.1
  ·exact hg1.2) (by simp) rfl (by simp only[List.length_append];omega) _ fun bf' H' s3=>?_
 (try simp (maxSteps:=999999) (disch:=try exact ZD) only[ZB,gX,zsk])
 exact⟨hlt,bf',rfl,by
  have s4:=zm5 s3
  rw[List.append_assoc] at s4
  exact s4⟩
theorem zb55 {b P:Nat} {bf:Option Nat} {l:List UInt8} {x:SyV} {s:Sy} (hP:zn4 H0) (hT:Tabs H0) (hs:SysAt H0 x s) (hg:∀ q∈s.prs,zd5 q.src∧zd5 q.dst∧zd5 q.cap∧1≤q.typ∧q.typ≤3) (hn:s.prs.length≤1000) (hl:l.length≤1000000000) (h:Hp H0 H (wrt b bf l :: cel P (x.cs s) :: L)) (Q:Out→Heap→Prop)
  (hQ:∀ bf' H',Hp H0 H' (wrt b bf' (l ++ s.prs.flatMap zkh) :: cel P (x.cs s) :: L)→Q (.brk 4 [ptr b 0,ptr P 0]) H') :
  wp (zba zbm (zhx zku zgq zkv) [ptr b 0,ptr P 0,x.qv,i64 s.prs.length,i64 0]) Q H:=by
 refine zbo s.prs.length (by omega) (fun j vs H'=>∃ bf',vs=[ptr b 0,ptr P 0,x.qv,i64 s.prs.length,i64 j]∧Hp H0 H' (wrt b bf' (l ++ (s.prs.take j).flatMap zkh) :: cel P (x.cs s) :: L)) ⟨bf,rfl,by simpa using h⟩ ?_
 rintro j vs H1 hj ⟨bf1,rfl,s1⟩
 by_cases hlt:j < s.prs.length
 case neg =>
  have:j=s.prs.length:=by omega
  subst this
  rw[List.take_length] at s1
  (try simp (maxSteps:=999999) (disch:=try exact ZD) only[ZB,zhx])
  exact hQ bf1 H1 s1
 have hp:=s1.ro hs.prs
 have a1:=hp.addr' (n:=5) rfl (k := .i64) (i:=j) (by omega) (by omega)
 rw[Int.toNat_natCast] at a1
 have d1:=fun Q=>hp.ldn' (Q:=Q) (n:=5) rfl hlt default
 have hg1:=hg _ (zbh (d:=default) hlt)
 have hacc:((s.prs.take j).flatMap zkh).length≤60000 * (s.prs.take j).length:=zby fun p hp=>by
  obtain⟨q1,q2,q3,q4,q5⟩:=hg p (List.mem_of_mem_take hp)
  unfold zkh
  split
  ·exact zc7 (by decide) (fun d hd=>by
    simp only[List.mem_cons,List.not_mem_nil,or_false] at hd
    rcases hd with rfl | rfl | rfl
    ·exact q1
    ·exact q2
    ·exact zkw q4 q5) (by simp)
  ·exact zc7 (by decide) (fun d hd=>by
    simp only[List.mem_cons,List.not_mem_nil,or_false] at hd
    rcases hd with rfl | rfl | rfl | rfl
    ·exact q1
    ·exact q2
    ·exact zkw q4 q5
    ·exact q3) (by simp)
 have htl:(s.prs.take j).length=j:=by rw[List.length_take];omega
 rw[htl] at hacc
 rw[zc2 (d:=default) hlt]
 simp only[List.flatMap_append,List.flatMap_cons,List.flatMap_nil,List.append_nil]
 generalize s.prs.getD j default=g at *
 obtain⟨ki,sr,ds,ty,ca⟩:=g
 simp only at hg1
 obtain⟨q1,q2,q3,q4,q5⟩:=hg1
 (try simp (maxSteps:=999999) (disch:=try exact ZD) only[ZA,zo,zn,zm,zk,zi,zj,zg,ze,zhx,zsm,a1,d1,zxn])
 have s2:Hp H0 (H1.push (some (.cells true [i64 ki,i64 sr,i64 ds,i64 ty,i64 ca]))) (wrt b bf1 (l ++ (s.prs.take j).flatMap zkh) :: cel H1.next [i64 ki,i64 sr,i64 ds,i64 ty,i64 ca] :: cel P (x.cs s) :: L):=znu (s1.newc _)
 generalize hH2:H1.push (some (.cells true [i64 ki,i64 sr,i64 ds,i64 ty,i64 ca]))=H2 at *
 generalize H1.next=X at *
 have gX:=s2.get (i:=1) rfl
 obtain⟨tc1,tc2,tc3⟩:=zbm0 (hT.keep0 s2.keeps) q4 q5
 by_cases hk:ki=1
 ·have hx:decide (ki=1)=true:=decide_eq_true hk
  (try simp (maxSteps:=999999) (disch:=try exact ZD) only[ZB,gX,tc1,tc2,hx])
  refine (zdf (cs:=zbj [Wd.n sr,Wd.n ds,Wd.s (zxs ty)]) (by decide) (by rfl)).mpr ?_
  (try simp (maxSteps:=999999) (disch:=try exact ZD) only[ZB])
  refine znt [.n sr,.n ds,.s (zxs ty)] hP s2 (by decide) (fun d hd=>by
   simp only[List.mem_cons,List.not_mem_nil,or_false] at hd
   rcases hd with rfl | rfl | rfl
   ·exact q1
   ·exact q2
   ·exact zkw q4 q5) (by simp) rfl (by simp only[List.length_append];omega) _ fun bf' H' s3=>?_
  (try simp (maxSteps:=999999) (disch:=try exact ZD) only[ZB,zlc])
  exact⟨hlt,bf',rfl,by
   have s4:=zm5 s3
   rw[List.append_assoc] at s4
   rw[zkh,if_pos hk]
   exact s4⟩
 ·have hx:decide (ki=1)=false:=decide_eq_false hk
  (try simp (maxSteps:=999999) (disch:=try exact ZD) only[ZB,gX,tc1,tc2,hx])
  refine (zdf (cs:=zbj [Wd.n sr,Wd.n ds,Wd.s (zxs ty),Wd.n ca]) (by decide) (by rfl)).mpr ?_
  (try simp (maxSteps:=999999) (disch:=try exact ZD) only[ZB])
  refine znt [.n sr,.n ds,.s (zxs ty),.n ca] hP s2 (by decide) (fun d hd=>by
   simp only[List.mem_cons,List.not_mem_nil,or_false] at hd
   rcases hd with rfl | rfl | rfl | rfl
   ·exact q1
   ·exact q2
   ·exact zkw q4 q5
   ·exact q3) (by simp) rfl (by simp only[List.length_append];omega) _ fun bf' H' s3=>?_
  (try simp (maxSteps:=999999) (disch:=try exact ZD) only[ZB,zlc])
  exact⟨hlt,bf',rfl,by
   have s4:=zm5 s3
   rw[List.append_assoc] at s4
   rw[zkh,if_neg hk]
   exact s4⟩
theorem zb3q {b P:Nat} {bf:Option Nat} {l:List UInt8} {x:SyV} {s:Sy} (hP:zn4 H0) (hs:SysAt H0 x s) (hg:∀ w∈s.wins,zd5 w.part∧zd5 w.start∧zd5 w.len) (hn:s.wins.length≤1000) (hl:l.length≤1000000000) (h:Hp H0 H (wrt b bf l :: cel P (x.cs s) :: L)) (Q:Out→Heap→Prop)
  (hQ:∀ bf' H',Hp H0 H' (wrt b bf' (l ++ s.wins.flatMap zki) :: cel P (x.cs s) :: L)→Q (.brk 6 [ptr b 0,ptr P 0]) H') :
  wp (zba zbm (zg3 zku zgq zkv) [ptr b 0,ptr P 0,x.wv,i64 s.wins.length,i64 0]) Q H:=by
 refine zbo s.wins.length (by omega) (fun j vs H'=>∃ bf',vs=[ptr b 0,ptr P 0,x.wv,i64 s.wins.length,i64 j]∧Hp H0 H' (wrt b bf' (l ++ (s.wins.take j).flatMap zki) :: cel P (x.cs s) :: L)) ⟨bf,rfl,by simpa using h⟩ ?_
 rintro j vs H1 hj ⟨bf1,rfl,s1⟩
 by_cases hlt:j < s.wins.length
 case neg =>
  have:j=s.wins.length:=by omega
  subst this
  rw[List.take_length] at s1
  (try simp (maxSteps:=999999) (disch:=try exact ZD) only[ZB,zg3])
  exact hQ bf1 H1 s1
 have hp:=s1.ro hs.wins
 have a1:=hp.addr' (n:=3) rfl (k := .i64) (i:=j) (by omega) (by omega)
 rw[Int.toNat_natCast] at a1
 have d1:=fun Q=>hp.ldn' (Q:=Q) (n:=3) rfl hlt default
 have hg1:=hg _ (zbh (d:=default) hlt)
 have hacc:((s.wins.take j).flatMap zki).length≤60000 * (s.wins.take j).length:=zby fun p hp=>by
  obtain⟨q1,q2,q3⟩:=hg p (List.mem_of_mem_take hp)
  unfold zki
  split
  ·exact zc7 (by decide) (fun d hd=>by
    simp only[List.mem_cons,List.not_mem_nil,or_false] at hd
    rcases hd with rfl | rfl
    ·exact q2
    ·exact q3) (by simp)
  ·exact zc7 (by decide) (fun d hd=>by
    simp only[List.mem_cons,List.not_mem_nil,or_false] at hd
    rcases hd with rfl | rfl | rfl
    ·exact q1
    ·exact q2
    ·exact q3) (by simp)
 have htl:(s.wins.take j).length=j:=by rw[List.length_take];omega
 rw[htl] at hacc
 rw[zc2 (d:=default) hlt]
 simp only[List.flatMap_append,List.flatMap_cons,List.flatMap_nil,List.append_nil]
 generalize s.wins.getD j default=g at *
 obtain⟨pa,st,le⟩:=g
 simp only at hg1
 obtain⟨q1,q2,q3⟩:=hg1
 (try simp (maxSteps:=999999) (disch:=try exact ZD) only[ZA,zo,zn,zm,zk,zi,zj,zg,ze,zg3,zrg,a1,d1,zgj])
 have s2:Hp H0 (H1.push (some (.cells true [i64 pa,i64 st,i64 le]))) (wrt b bf1 (l ++ (s.wins.take j).flatMap zki) :: cel H1.next [i64 pa,i64 st,i64 le] :: cel P (x.cs s) :: L):=znu (s1.newc _)
 generalize hH2:H1.push (some (.cells true [i64 pa,i64 st,i64 le]))=H2 at *
 generalize H1.next=X at *
 have gX:=s2.get (i:=1) rfl
 by_cases hk:pa < 0
 ·have hx:decide (pa < 0)=true:=decide_eq_true hk
  (try simp (maxSteps:=999999) (disch:=try exact ZD) only[ZB,gX,hx])
  refine (zdf (cs:=zbj [Wd.n st,Wd.n le]) (by decide) (by rfl)).mpr ?_
  (try simp (maxSteps:=999999) (disch:=try exact ZD) only[ZB])
  refine znt [.n st,.n le] hP s2 (by decide) (fun d hd=>by
   simp only[List.mem_cons,List.not_mem_nil,or_false] at hd
   rcases hd with rfl | rfl
   ·exact q2
   ·exact q3) (by simp) rfl (by simp only[List.length_append];omega) _ fun bf' H' s3=>?_
  (try simp (maxSteps:=999999) (disch:=try exact ZD) only[ZB,zld])
  exact⟨hlt,bf',rfl,by
   have s4:=zm5 s3
   rw[List.append_assoc] at s4
   rw[zki,if_pos hk]
   exact s4⟩
 ·have hx:decide (pa < 0)=false:=decide_eq_false hk
  (try simp (maxSteps:=999999) (disch:=try exact ZD) only[ZB,gX,hx])
  refine (zdf (cs:=zbj [Wd.n pa,Wd.n st,Wd.n le]) (by decide) (by rfl)).mpr ?_
  (try simp (maxSteps:=999999) (disch:=try exact ZD) only[ZB])
  refine znt [.n pa,.n st,.n le] hP s2 (by decide) (fun d hd=>by
   simp only[List.mem_cons,List.not_mem_nil,or_false] at hd
   rcases hd with rfl | rfl | rfl
   ·exact q1
   ·exact q2
   ·exact q3) (by simp) rfl (by simp only[List.length_append];omega) _ fun bf' H' s3=>?_
  (try simp (maxSteps:=999999) (disch:=try exact ZD) only[ZB,zld])
  exact⟨hlt,bf',rfl,by
   have s4:=zm5 s3
   rw[List.append_assoc] at s4
   rw[zki,if_neg hk]
   exact s4⟩
end Go.AM.Cap
