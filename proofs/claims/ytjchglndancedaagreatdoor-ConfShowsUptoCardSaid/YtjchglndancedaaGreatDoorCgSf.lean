import Derived.Test.YtjchglndancedaaGreatDoorCgSd
import Derived.Test.YtjchglndancedaaGreatDoorAmIn
import Derived.Test.YtjchglndancedaaGreatDoorCfZ
set_option linter.all false
/- conf, the document's Show: users; Show answers z3x -/
set_option maxHeartbeats 16000000
namespace Go.AM.Cap
open Go.AM Go.Proofs
variable {H0 H:Heap} {L:List Thing}
theorem zb1f {b P j:Nat} {v va v0:V} {l:List UInt8} {ul:List Us} {cs:List V} (c7:cs[7]? = some v) (hv:Sl H0 v ul) (hj:j < ul.length) (hu:(ul.getD j default).rs.v=va) {rs:List Rl} (hr:Sl H0 va rs) (hb:∀ r∈rs,zh5 r.part∧1≤r.level∧r.level≤4) (hul:ul.length≤8) (hn:rs.length≤1048576) (hl:l.length≤1000000000000) (h:Hp H0 H (dwr b v0 l :: cel P cs :: L)) (Q:Out→Heap→Prop)
  (hQ:∀ v' H',Hp H0 H' (dwr b v' (l ++ rs.flatMap zz4) :: cel P cs :: L)→Q (.brk 2 [ptr P 0,ptr b 0,i64 j]) H') :
  wp (zba zbm ztq [ptr P 0,ptr b 0,i64 j,i64 0]) Q H:=by
 have l0:=hr.len
 refine zbo rs.length (by omega) (fun k vs H'=>∃ v',vs=[ptr P 0,ptr b 0,i64 j,i64 k]∧Hp H0 H' (dwr b v' (l ++ (rs.take k).flatMap zz4) :: cel P cs :: L)) ⟨v0,rfl,by simpa using h⟩ ?_
 rintro k vs H1 hk ⟨v1,rfl,s1⟩
 have g1:=s1.get (i:=1) rfl
 have hp:=s1.ro hv
 have a1:=hp.addr' (n:=3) rfl (k := .i64) (i:=j) (by omega) (by omega)
 rw[Int.toNat_natCast] at a1
 have e1:=fun {K:Heap} (hK:Keeps [] H1 K)=>(hp.keep0 hK).cell' (n:=3) rfl (off:=2) hj (by omega) default
 have f1:(Flat.enc (ul.getD j default))[2]? = some (ul.getD j default).rs.v:=rfl
 simp only[zbd,f1,hu] at e1
 have e1':=e1 (Keeps.refl _ _)
 by_cases hlt:k < rs.length
 case neg =>
  have:k=rs.length:=by omega
  subst this
  rw[List.take_length] at s1
  (try simp (maxSteps:=999999) (disch:=try exact ZD) only[ZB,ztq,g1,c7,a1,e1',l0])
  exact hQ v1 H1 s1
 have hp2:=s1.ro hr
 have a2:=hp2.addr' (n:=2) rfl (k := .i64) (i:=k) (by omega) (by omega)
 rw[Int.toNat_natCast] at a2
 have e2:=hp2.cell' (n:=2) rfl (off:=0) hlt (by omega) default
 have e3:=fun {K:Heap} (hK:Keeps [] H1 K)=>(hp2.keep0 hK).cell' (n:=2) rfl (off:=1) hlt (by omega) default
 simp only[zbd,Nat.add_zero] at e2 e3
 have hg1:=hb _ (zbh (d:=default) hlt)
 have hacc:((rs.take k).flatMap zz4).length≤60000 * (rs.take k).length:=zby fun p hp=>zbbs (by have:=hb p (List.mem_of_mem_take hp);exact⟨zgl this.1,this.2⟩)
 have htl:(rs.take k).length=k:=by rw[List.length_take];omega
 rw[htl] at hacc
 rw[zc2 (d:=default) hlt]
 simp only[List.flatMap_append,List.flatMap_cons,List.flatMap_nil,List.append_nil]
 generalize rs.getD k default=g at *
 obtain⟨pa,le⟩:=g
 simp only at hg1
 obtain⟨q1,q2,q3⟩:=hg1
 have f2:(Flat.enc (⟨pa,le⟩:Rl))[0]? = some (i64 pa):=rfl
 have f3:(Flat.enc (⟨pa,le⟩:Rl))[1]? = some (i64 le):=rfl
 rw[f2] at e2
 rw[f3] at e3
 have e3':=e3 (Keeps.refl _ _)
 have w1:=zgl q1
 (try simp (maxSteps:=999999) (disch:=try exact ZD) only[ZB,ztq,z94,g1,c7,a1,e1',l0,a2,e2,e3'])
 refine zil pa q1.1 w1.2 _ fun H2 k2=>?_
 have s2:=s1.keep0 k2
 have g2:=s2.get (i:=1) rfl
 have c2:=e1 k2
 have d2:=e3 k2
 (try simp (maxSteps:=999999) (disch:=try exact ZD) only[ZB])
 refine zbx6 _ fun w H3 k3 o3=>?_
 have s3:=s2.keep0 k3
 have g3:=s3.get (i:=1) rfl
 have c3:=e1 (k2.trans k3 (by simp))
 have d3:=e3 (k2.trans k3 (by simp))
 obtain⟨t1,t2⟩:=zb6k o3 q2 q3
 (try simp (maxSteps:=999999) (disch:=try exact ZD) only[ZB,t1,t2])
 refine znv [.n pa,.s (levW le)] s3 (by decide) (by rfl) (by decide) (fun d hd=>by
  simp only[List.mem_cons,List.not_mem_nil,or_false] at hd
  rcases hd with rfl | rfl
  ·exact w1
  ·exact zbut q2 q3) (by simp) rfl (by simp only[List.length_append];omega) _ fun v' H4 s4=>?_
 have k1:zie (some v) v=true:=zi3 hv
 have k2:zie (some va) va=true:=zi3 hr
 (try simp (maxSteps:=999999) (disch:=try exact ZD) only[ZB,g2,g3,c7,c2,c3,d2,d3,k1,k2,z93])
 rw[List.append_assoc] at s4
 exact⟨hlt,v',rfl,s4⟩
structure DeOk (s:Se3):Prop where
 se:SeOk s
 dd:DdOk s.sy
 us:∀ u∈s.us,∀ r∈u.rs,zh5 r.part
 millis:zh5 s.sy.millis
 frame:zh5 s.sy.frame
 idle:zh5 s.idle
theorem zb7x {s:Se3} (h:zvo s.sy s.us s.idle=0) (hg:s.sy.grs.length≤1000):DeOk s:=by
 have hse:=zbv4 h hg
 obtain⟨h1,h2,h3,h4⟩:=zbv3 h
 obtain⟨u1,u2⟩:=zb04 h2
 obtain⟨p1,p2,p3,p4,p5,p6⟩:=zbpb h1.plan
 obtain⟨b1,b2,b3⟩:=zqc h1.chkB
 obtain⟨q1,q2⟩:=z01 h1.chkP
 have hm:=h1.millis
 have hin:∀ b,inB s.sy b→(b.kind=1∨b.kind=2)∧zh5 b.n:=fun b hb=>by
  rcases hb with⟨c1,c2,c3⟩ | ⟨c1,c2,c3⟩
  ·exact⟨.inl c1,by omega,by omega⟩
  ·exact⟨.inr c1,by omega,by omega⟩
 refine⟨hse,⟨hse.sy,fun g hg=>?_,fun q hq=>?_,fun w hw=>?_,fun u hu=>?_⟩,fun u hu r hr=>?_,⟨by omega,by omega⟩,⟨by omega,by omega⟩,⟨by omega,by omega⟩⟩
 ·have:=b3 g hg
  exact⟨⟨by omega,by omega⟩,⟨by omega,by omega⟩⟩
 ·obtain⟨c1,c2,c3,c4,c5,c6,c7⟩:=zb03 (q2 q hq)
  exact⟨⟨by omega,by omega⟩,⟨by omega,by omega⟩,⟨by omega,by omega⟩,c4⟩
 ·have:=p6 w hw
  refine⟨?_,⟨by omega,by omega⟩,⟨by omega,by omega⟩⟩
  by_cases c:w.part = -1
  ·exact .inl c
  ·exact .inr ⟨by omega,by omega⟩
 ·obtain⟨_,c1,c2⟩:=zb4l h1 u hu
  exact⟨fun b hb=>hin b (c1 b hb),fun b hb=>hin b (c2 b hb)⟩
 ·have:=(u2 u hu).2.2 r hr
  exact⟨by omega,by omega⟩
theorem zb1g {b P:Nat} {v v0:V} {l:List UInt8} {ul:List Us} {cs:List V} (c7:cs[7]? = some v) (hv:Users H0 v ul) (ok:∀ u∈ul,UsOk u.p) (hm:∀ u∈ul,∀ r∈u.p.rs,zh5 r.part) (hn:ul.length≤8) (hl:l.length≤1000000000) (h:Hp H0 H (dwr b v0 l :: cel P cs :: L)) (Q:Out→Heap→Prop)
  (hQ:∀ v' H',Hp H0 H' (dwr b v' (l ++ (ul.map Us.p).flatMap zo9) :: cel P cs :: L)→Q (.brk 0 [ptr b 0]) H') :
  wp (zba zbm ztr [ptr P 0,ptr b 0,i64 0]) Q H:=by
 have l0:=hv.out.len
 refine zbo ul.length (by omega) (fun j vs H'=>∃ v',vs=[ptr P 0,ptr b 0,i64 j]∧Hp H0 H' (dwr b v' (l ++ ((ul.take j).map Us.p).flatMap zo9) :: cel P cs :: L)) ⟨v0,rfl,by simpa using h⟩ ?_
 rintro j vs H1 hj ⟨v1,rfl,s1⟩
 have g1:=s1.get (i:=1) rfl
 by_cases hlt:j < ul.length
 case neg =>
  have:j=ul.length:=by omega
  subst this
  rw[List.take_length] at s1
  (try simp (maxSteps:=999999) (disch:=try exact ZD) only[ZB,ztr,g1,c7,l0])
  exact hQ v1 H1 s1
 have hp:=s1.ro hv.out
 have a1:=hp.addr' (n:=3) rfl (k := .i64) (i:=j) (by omega) (by omega)
 rw[Int.toNat_natCast] at a1
 have e0:=fun {K:Heap} (hK:Keeps [] H1 K)=>(hp.keep0 hK).cell' (n:=3) rfl (off:=0) hlt (by omega) default
 have e1:=hp.cell' (n:=3) rfl (off:=1) hlt (by omega) default
 simp only[zbd,Nat.add_zero] at e0 e1
 have f0:(Flat.enc (ul.getD j default))[0]? = some (.string (ul.getD j default).name):=rfl
 have f1:(Flat.enc (ul.getD j default))[1]? = some (.string (ul.getD j default).key):=rfl
 rw[f0] at e0
 rw[f1] at e1
 have e0':=e0 (Keeps.refl _ _)
 have hmem:=zbh (d:=default) hlt
 have hok:=ok _ hmem
 have hmm:=hm _ hmem
 have hacc:(((ul.take j).map Us.p).flatMap zo9).length≤63000000000 * ((ul.take j).map Us.p).length:=zby fun p hp=>by
  obtain⟨u,hu,rfl⟩:=List.mem_map.1 hp
  have hm:=List.mem_of_mem_take hu
  exact zbgw (ok u hm) (hv.inn u hm).2
 have htl:((ul.take j).map Us.p).length=j:=by rw[List.length_map,List.length_take];omega
 rw[htl] at hacc
 have hat:=hv.at hlt
 rw[zc2 (d:=default) hlt]
 simp only[List.map_append,List.map_cons,List.map_nil,List.flatMap_append,List.flatMap_cons,List.flatMap_nil,List.append_nil]
 obtain⟨r1,r2,r3⟩:=hok
 generalize hu:ul.getD j default=u at *
 have r1':u.name.size≠0∧u.name.size≤24:=r1
 have r2':16≤u.key.size∧u.key.size≤64:=r2
 (try simp (maxSteps:=999999) (disch:=try exact ZD) only[ZB,ztr,z96,g1,c7,l0,a1,e0',e1])
 refine zbpa H1 u.key (by omega) _ fun H2 k2=>?_
 have s2:=s1.keep0 k2
 have g2:=s2.get (i:=1) rfl
 have e2:=e0 k2
 have k1:zie (some v) v=true:=zi3 hv.out
 have lu:(ze4 zbgp [.s u.name,.s (hexW u.key)]).length≤60000:=zc7 (by decide) (fun d hd=>by
  simp only[List.mem_cons,List.not_mem_nil,or_false] at hd
  rcases hd with rfl | rfl
  ·exact⟨r1'.1,by omega⟩
  ·exact zbee r2) (by simp)
 (try simp (maxSteps:=999999) (disch:=try exact ZD) only[ZB])
 refine znv (w:=zbgp) [.s u.name,.s (hexW u.key)] s2 (by decide) (by rfl) (by decide) (fun d hd=>by
  simp only[List.mem_cons,List.not_mem_nil,or_false] at hd
  rcases hd with rfl | rfl
  ·exact⟨r1'.1,by omega⟩
  ·exact zbee r2) (by simp) rfl (by simp only[List.length_append];omega) _ fun v' H3 s3=>?_
 (try simp (maxSteps:=999999) (disch:=try exact ZD) only[ZB,g2,c7,k1,e2])
 refine zb1f (va:=u.rs.v) c7 hv.out hlt (by rw[hu]) hat.1 (fun r hr=>⟨hmm r hr,(r3 r hr).2⟩) hn hat.2 (by simp only[List.length_append];omega) s3 _ fun v5 H5 s5=>?_
 (try simp (maxSteps:=999999) (disch:=try exact ZD) only[ZB,z95])
 exact⟨hlt,v5,rfl,by
  simp only[List.append_assoc] at s5
  simp only[zo9,List.append_assoc]
  exact s5⟩
theorem zb7y (l:List UInt8):sv (tb l)=⟨l.toArray⟩:=by
 have:=zbmk ⟨l.toArray⟩
 rw[zb4m] at this
 exact this
theorem zb1h {x:SyV} {v:V} {l:List Us} {s:Se3} (hs:SysAt H x s.sy) (hgs:s.sy.grs.length≤1000) (hu:Users H v l) (hp:l.map Us.p=s.us) (Q:V→Heap→Prop)
  (hQ:∀ H',Keeps [] H H'→Q (.tuple #[.string (z3x s).1,i64 (z3x s).2]) H'):wp (zr1 [.agg (x.cs s.sy ++ [v,i64 s.idle]).toArray]) Q H:=by
 show wp (z2f (.agg (x.cs s.sy ++ [v,i64 s.idle]).toArray)) Q H
 have ho:(x.cs s.sy ++ [v,i64 s.idle]).all Value.isOne=true:=by rw[List.all_append,hs.one];simp[hu.out.isOne]
 have s1:Hp H (H.push (some (.cells true (x.cs s.sy ++ [v,i64 s.idle])))) [cel H.next (x.cs s.sy ++ [v,i64 s.idle])]:=(Hp.start H).newc _
 unfold z2f
 rw[z7,z7]
 refine (zb0 ho).mpr ?_
 have c3:(x.cs s.sy ++ [v,i64 s.idle])[3]? = some (i64 s.sy.frame):=rfl
 have c6:(x.cs s.sy ++ [v,i64 s.idle])[6]? = some (i64 s.sy.millis):=rfl
 have c7:(x.cs s.sy ++ [v,i64 s.idle])[7]? = some v:=rfl
 have c8:(x.cs s.sy ++ [v,i64 s.idle])[8]? = some (i64 s.idle):=rfl
 have d7:∀ {K:Heap} (P:Nat),K.get P=some (.cells true (x.cs s.sy ++ [v,i64 s.idle]))→∀ Q,wp (ldn 7 (ptr P 0)) Q K↔Q (.agg (x.cs s.sy).toArray) K:=fun P hg Q=>by
  rw[zbz,hg,zy2 (by show 0 + 7≤9;omega)]
  rfl
 generalize x.cs s.sy ++ [v,i64 s.idle]=cs at *
 generalize H.push (some (.cells true cs))=H1 at *
 generalize H.next=P at *
 have g1:=s1.get (i:=0) rfl
 have e1:=d7 P g1
 (try simp (maxSteps:=999999) (disch:=try exact ZD) only[ZA,zo,zn,zm,zk,zi,zj,zg,ze,e1,g1,c7,c8])
 refine zbsx (hs.keep0 s1.keeps) (by omega) (hu.keep0 s1.keeps) hp s.idle _ fun a H2 k2=>?_
 have s2:=s1.keep0 k2
 unfold z3x at hQ
 by_cases hn:zvo s.sy s.us s.idle=0
 case neg =>
  rw[if_pos hn] at hQ
  have e2:decide (zvo s.sy s.us s.idle≠0)=true:=decide_eq_true hn
  (try simp (maxSteps:=999999) (disch:=try exact ZD) only[ZB,e2])
  exact hQ _ s2.keeps
 rw[if_neg (fun q=>q hn)] at hQ
 obtain⟨oks,okd,oku,okm,okf,oki⟩:=zb7x hn hgs
 have e2:decide (zvo s.sy s.us s.idle≠0)=false:=decide_eq_false (fun q=>q hn)
 have eb:build [(Value.slice none 0 0:V)] []=some (.agg [.slice none 0 0].toArray):=rfl
 have s3:Hp H (H2.push (some (.cells true [.slice none 0 0]))) [dwr H2.next (.slice none 0 0) [],cel P cs]:=zbsy (znu ((s2.newc _).nilo (α:=BitVec 8)))
 have m1:=zgl okm
 have m2:=zgl okf
 have m3:=zgl oki
 have n1:=z05 (k:=zhz) (by decide) m1
 have n2:=z05 (k:=zkf) (by decide) m2
 have n3:=z05 (k:=zso) (by decide) m3
 (try simp (maxSteps:=999999) (disch:=try exact ZD) only[ZA,zo,zn,zk,zi,zj,zg,ze,e2,z99,eb])
 generalize H2.push (some (.cells true [.slice none 0 0]))=H3 at *
 generalize H2.next=b at *
 have g3:=s3.get (i:=1) rfl
 (try simp (maxSteps:=999999) (disch:=try exact ZD) only[ZA,zo,zn,zm,zk,zi,zj,zg,ze,g3,c6])
 refine zil s.sy.millis okm.1 m1.2 _ fun H4 k4=>?_
 have s4:=s3.keep0 k4
 (try simp (maxSteps:=999999) (disch:=try exact ZD) only[ZA,zo,zn,zm,zk,zi,zj,zg,ze])
 refine znv (w:=zhz) [.n s.sy.millis] s4 (by decide) (by rfl) (by decide) (fun d hd=>by
  simp only[List.mem_cons,List.not_mem_nil,or_false] at hd
  subst hd
  exact m1) (by simp) rfl (by simp) _ fun v5 H5 s5=>?_
 have g5:=s5.get (i:=1) rfl
 (try simp (maxSteps:=999999) (disch:=try exact ZD) only[ZA,zo,zn,zm,zk,zi,zj,zg,ze,g5,c3])
 refine zil s.sy.frame okf.1 m2.2 _ fun H6 k6=>?_
 have s6:=s5.keep0 k6
 (try simp (maxSteps:=999999) (disch:=try exact ZD) only[ZA,zo,zn,zm,zk,zi,zj,zg,ze])
 refine znv (w:=zkf) [.n s.sy.frame] s6 (by decide) (by rfl) (by decide) (fun d hd=>by
  simp only[List.mem_cons,List.not_mem_nil,or_false] at hd
  subst hd
  exact m2) (by simp) rfl (by simp only[List.length_append,List.length_nil];omega) _ fun v7 H7 s7=>?_
 have g7:=s7.get (i:=1) rfl
 (try simp (maxSteps:=999999) (disch:=try exact ZD) only[ZA,zo,zn,zm,zk,zi,zj,zg,ze,g7,c8])
 refine zil s.idle oki.1 m3.2 _ fun H8 k8=>?_
 have s8:=s7.keep0 k8
 (try simp (maxSteps:=999999) (disch:=try exact ZD) only[ZA,zo,zn,zm,zk,zi,zj,zg,ze])
 refine znv (w:=zso) [.n s.idle] s8 (by decide) (by rfl) (by decide) (fun d hd=>by
  simp only[List.mem_cons,List.not_mem_nil,or_false] at hd
  subst hd
  exact m3) (by simp) rfl (by simp only[List.length_append,List.length_nil];omega) _ fun v9 H9 s9=>?_
 have s9':Hp H H9 (dwr b v9 (z7l s) :: [cel P cs]):=s9
 clear s9
 have hhl:(z7l s).length≤180000:=by simp only[z7l,List.length_append];omega
 have hhn:z7l s≠[]:=by simp[z7l,ze4]
 have g9:=s9'.get (i:=1) rfl
 have e9:=d7 P g9
 (try simp (maxSteps:=999999) (disch:=try exact ZD) only[ZA,zo,zn,zm,zk,zi,zj,zg,ze,e9])
 refine zbye hs okd (by omega) s9' _ fun v10 H10 s10=>?_
 have hsl:=zbed oks.sy
 have okn:=oks.un
 (try simp (maxSteps:=999999) (disch:=try exact ZD) only[ZB])
 refine zb1g c7 hu (fun u hm=>oks.us _ (by rw[← hp];exact List.mem_map_of_mem hm)) (fun u hm=>oku _ (by rw[← hp];exact List.mem_map_of_mem hm)) (by rw[← hp,List.length_map] at okn;exact okn) (by simp only[List.length_append];omega) s10 _ fun v11 H11 s11=>?_
 rw[hp] at s11
 have s12:Hp H H11 (dwr b v11 (z3w s) :: [cel P cs]):=s11
 clear s11
 have s13:=zbv7 s12
 have g13:=s13.get (i:=0) rfl
 have o13:=s13.own (i:=1) rfl
 have hlen:=o13.sl.len
 rw[tb,List.length_map] at hlen
 (try simp (maxSteps:=999999) (disch:=try exact ZD) only[ZB,z98,g13,hlen])
 by_cases hl6:(z3w s).length > 65536
 ·rw[if_pos hl6] at hQ
  have e8:decide (((z3w s).length:Int) > 65536)=true:=decide_eq_true (by omega)
  (try simp (maxSteps:=999999) (disch:=try exact ZD) only[ZB,e8])
  exact hQ _ s13.keeps
 rw[if_neg hl6] at hQ
 have e8:decide (((z3w s).length:Int) > 65536)=false:=decide_eq_false (by omega)
 (try simp (maxSteps:=999999) (disch:=try exact ZD) only[ZB,e8,z97,g13])
 refine zbis o13 ?_
 rw[zb7y]
 (try simp (maxSteps:=999999) (disch:=try exact ZD) only[ZB])
 exact hQ _ s13.keeps
end Go.AM.Cap

/- conf: ConfShows, the walk -/
set_option maxHeartbeats 16000000
namespace Go.AM.Cap
open Go.AM Go.Proofs
variable {H:Heap}
theorem confshows_ok {G:List V→M V} {x:SyV} {v:V} {l:List Us} {s:Se3} (hP:zn4 H) (hT:Tabs H) (hs:SysAt H x s.sy) (hu:Users H v l) (hp:l.map Us.p=s.us) (Q:V→Heap→Prop) (hQ:∀ H',Q (.bool true) H') :
  wp (zys zpr G zc3 zx4 zku zgq zkv z3u z3v [.agg (x.cs s.sy ++ [v,i64 s.idle]).toArray]) Q H:=by
 show wp (zr2 zpr G zc3 zx4 zku zgq zkv z3u z3v (.agg (x.cs s.sy ++ [v,i64 s.idle]).toArray)) Q H
 have ho:(x.cs s.sy ++ [v,i64 s.idle]).all Value.isOne=true:=by rw[List.all_append,hs.one];simp[hu.out.isOne]
 have s1:Hp H (H.push (some (.cells true (x.cs s.sy ++ [v,i64 s.idle])))) [cel H.next (x.cs s.sy ++ [v,i64 s.idle])]:=(Hp.start H).newc _
 have shw:∀ (K:Heap),Keeps [] H K→s.sy.grs.length≤200→∀ Q',(∀ H',Keeps [] K H'→Q' (.tuple #[.string (z3x s).1,i64 (z3x s).2]) H')→wp (zt4 G zku zgq zkv z3u z3v [.agg (x.cs s.sy ++ [v,i64 s.idle]).toArray]) Q' K:=fun K hk hg Q' h =>
  zb3u (hP.keep0 hk) (hT.keep0 hk) (hs.keep0 hk) (hu.keep0 hk) hp (fun hn=>zbv4 hn (by omega)) Q' h
 have dhw:∀ (K:Heap),Keeps [] H K→s.sy.grs.length≤200→∀ Q',(∀ H',Keeps [] K H'→Q' (.tuple #[.string (z3x s).1,i64 (z3x s).2]) H')→wp (zr1 [.agg (x.cs s.sy ++ [v,i64 s.idle]).toArray]) Q' K:=fun K hk hg Q' h =>
  zb1h (hs.keep0 hk) (by omega) (hu.keep0 hk) hp Q' h
 unfold zr2
 rw[z7,z7]
 refine (zb0 ho).mpr ?_
 have c1:(x.cs s.sy ++ [v,i64 s.idle])[1]? = some x.gv:=rfl
 have h9:(x.cs s.sy ++ [v,i64 s.idle]).length=9:=rfl
 generalize x.cs s.sy ++ [v,i64 s.idle]=cs at *
 generalize H.push (some (.cells true cs))=H1 at *
 generalize H.next=P at *
 have g1:=s1.get (i:=0) rfl
 have l1:=hs.grs.len
 by_cases hg:s.sy.grs.length > 200
 ·have e1:decide ((s.sy.grs.length:Int) > 200)=true:=decide_eq_true (by omega)
  (try simp (maxSteps:=999999) (disch:=try exact ZD) only[ZB,g1,c1,l1,e1])
  refine zbsk (hT.keep0 s1.keeps) _ fun H2 k2=>?_
  (try simp (maxSteps:=999999) (disch:=try exact ZD) only[ZB])
  exact hQ _
 have e1:decide ((s.sy.grs.length:Int) > 200)=false:=decide_eq_false (by omega)
 have d9:=fun Q=>zbb (n:=9) (Q:=Q) g1 h9
 (try simp (maxSteps:=999999) (disch:=try exact ZD) only[ZA,zo,zn,zm,zk,zi,zj,zg,ze,g1,c1,l1,e1,zxl,d9])
 refine shw H1 s1.keeps (by omega) _ fun H2 k2=>?_
 have s2:=s1.keep0 k2
 have g2:=s2.get (i:=0) rfl
 have d92:=fun Q=>zbb (n:=9) (Q:=Q) g2 h9
 (try simp (maxSteps:=999999) (disch:=try exact ZD) only[ZA,zo,zn,zm,zk,zi,zj,zg,ze,d92])
 refine dhw H2 s2.keeps (by omega) _ fun H3 k3=>?_
 have s3:=s2.keep0 k3
 generalize z3x s=p at *
 obtain⟨t,e⟩:=p
 have y1:decide (t=t)=true:=decide_eq_true rfl
 have y2:decide (e=e)=true:=decide_eq_true rfl
 (try simp (maxSteps:=999999) (disch:=try exact ZD) only[ZA,zo,zn,zm,zk,zi,zj,zg,ze,y1,y2])
 refine zbsk (hT.keep0 s3.keeps) _ fun H4 k4=>?_
 (try simp (maxSteps:=999999) (disch:=try exact ZD) only[ZB])
 exact hQ _
end Go.AM.Cap
