import Derived.Test.YtjchglndancedaaGreatDoorShaF
import Derived.Test.YtjchglndancedaaGreatDoorCfZ
import Derived.Test.YtjchglndancedaaGreatDoorAmIn
set_option linter.all false
/- conf: a system's lines; Show -/
set_option maxHeartbeats 16000000
namespace Go.AM.Cap
open Go.AM Go.Proofs
variable {H0 H:Heap} {L:List Thing}
structure ShOk (s:Sy):Prop where
 pts:s.pts.length≤64
 typ:∀ p∈s.pts,1≤p.typ∧p.typ≤3
 grn:s.grs.length≤1000
 grs:∀ g∈s.grs,zd5 g.part∧zd5 g.point
 prn:s.prs.length≤1000
 prs:∀ q∈s.prs,zd5 q.src∧zd5 q.dst∧zd5 q.cap∧1≤q.typ∧q.typ≤3
 win:s.wins.length≤1000
 wins:∀ w∈s.wins,zd5 w.part∧zd5 w.start∧zd5 w.len
 unn:s.uns.length≤100
 uns:∀ u∈s.uns,UnOk u
theorem z2n {p:Pt} (h:1≤p.typ∧p.typ≤3):(zr7 p).length≤60000:=zc7 (by cases p.out <;> decide) (fun d hd=>by
 simp only[List.mem_cons,List.not_mem_nil,or_false] at hd
 subst hd
 exact zkw h.1 h.2) (by simp)
theorem z2o {g:Gr} (h:zd5 g.part∧zd5 g.point):(zr8 g).length≤60000:=zc7 (by cases g.write <;> decide) (fun d hd=>by
 simp only[List.mem_cons,List.not_mem_nil,or_false] at hd
 rcases hd with rfl | rfl
 ·exact h.1
 ·exact h.2) (by simp)
theorem z2p {q:Port} (h:zd5 q.src∧zd5 q.dst∧zd5 q.cap∧1≤q.typ∧q.typ≤3):(zkh q).length≤60000:=by
 obtain⟨q1,q2,q3,q4,q5⟩:=h
 unfold zkh
 split
 ·exact zc7 (by decide) (fun d hd=>by
   simp only[List.mem_cons,List.not_mem_nil,or_false] at hd
   rcases hd with rfl | rfl | rfl
   ·exact q1
   ·exact q2
   ·exact zkw q4 q5) (by simp)
 ·exact zc7 (by decide) (fun d hd=>by
   simp only[List.mem_cons,List.not_mem_nil,or_false] at hd
   rcases hd with rfl | rfl | rfl | rfl
   ·exact q1
   ·exact q2
   ·exact zkw q4 q5
   ·exact q3) (by simp)
theorem z2q {w:Win} (h:zd5 w.part∧zd5 w.start∧zd5 w.len):(zki w).length≤60000:=by
 obtain⟨q1,q2,q3⟩:=h
 unfold zki
 split
 ·exact zc7 (by decide) (fun d hd=>by
   simp only[List.mem_cons,List.not_mem_nil,or_false] at hd
   rcases hd with rfl | rfl
   ·exact q2
   ·exact q3) (by simp)
 ·exact zc7 (by decide) (fun d hd=>by
   simp only[List.mem_cons,List.not_mem_nil,or_false] at hd
   rcases hd with rfl | rfl | rfl
   ·exact q1
   ·exact q2
   ·exact q3) (by simp)
theorem zbed {s:Sy} (h:ShOk s):(zxt s).length≤700000000:=by
 have a1:=zby (f:=zr7) (m:=60000) fun p hp=>z2n (h.typ p hp)
 have a2:=zby (f:=zr8) (m:=60000) fun p hp=>z2o (h.grs p hp)
 have a3:=zby (f:=zkh) (m:=60000) fun p hp=>z2p (h.prs p hp)
 have a4:=zby (f:=zki) (m:=60000) fun p hp=>z2q (h.wins p hp)
 have a5:=zby (f:=zns) (m:=4000000) fun p hp=>by
  obtain⟨r1,r2,r3,r4⟩:=h.uns p hp
  exact z7k r1 r2 r3 r4
 have:=h.pts;have:=h.grn;have:=h.prn;have:=h.win;have:=h.unn
 simp only[zxt,List.length_append]
 omega
theorem zbx4 {b:Nat} {bf:Option Nat} {l:List UInt8} {x:SyV} {s:Sy} (hP:zn4 H0) (hT:Tabs H0) (hs:SysAt H0 x s) (ok:ShOk s) (hl:l.length≤200000000) (h:Hp H0 H (wrt b bf l :: L)) (Q:V→Heap→Prop)
  (hQ:∀ bf' H',Hp H0 H' (wrt b bf' (l ++ zxt s) :: L)→Q (.tuple #[]) H'):wp (zih zku zgq zkv [ptr b 0,.agg (x.cs s).toArray]) Q H:=by
 show wp (zmr zku zgq zkv (ptr b 0) (.agg (x.cs s).toArray)) Q H
 have ho:=hs.one
 obtain⟨ul,hU,hul⟩:=hs.uns
 have hlen:s.uns.length=ul.length:=by rw[← hul,List.length_map]
 have l0:=hs.pts.len
 have l1:=hs.grs.len
 have l2:=hs.prs.len
 have l3:=hs.wins.len
 have l4:=hU.out.len
 rw[← hlen] at l4
 have a1:=zby (f:=zr7) (m:=60000) fun p hp=>z2n (ok.typ p hp)
 have a2:=zby (f:=zr8) (m:=60000) fun p hp=>z2o (ok.grs p hp)
 have a3:=zby (f:=zkh) (m:=60000) fun p hp=>z2p (ok.prs p hp)
 have a4:=zby (f:=zki) (m:=60000) fun p hp=>z2q (ok.wins p hp)
 have o1:=ok.pts;have o2:=ok.grn;have o3:=ok.prn;have o4:=ok.win;have o5:=ok.unn
 have s1:Hp H0 (H.push (some (.cells true (x.cs s)))) (wrt b bf l :: cel H.next (x.cs s) :: L):=znu (h.newc _)
 unfold zmr
 rw[z7,z7]
 refine (zb0 ho).mpr ?_
 generalize H.push (some (.cells true (x.cs s)))=H1 at *
 generalize H.next=P at *
 have c0:(x.cs s)[0]? = some x.pv:=rfl
 have c1:(x.cs s)[1]? = some x.gv:=rfl
 have c2:(x.cs s)[2]? = some x.qv:=rfl
 have c4:(x.cs s)[4]? = some x.wv:=rfl
 have c5:(x.cs s)[5]? = some x.uv:=rfl
 have g1:=s1.get (i:=1) rfl
 (try simp (maxSteps:=999999) (disch:=try exact ZD) only[ZB,g1,c0,l0])
 refine zb53 hP hT hs ok.typ ok.pts (by omega) s1 _ fun bf2 H2 s2=>?_
 have g2:=s2.get (i:=1) rfl
 (try simp (maxSteps:=999999) (disch:=try exact ZD) only[ZB,zrr,g2,c1,l1])
 refine zb54 hP hs ok.grs ok.grn (by simp only[List.length_append];omega) s2 _ fun bf3 H3 s3=>?_
 have g3:=s3.get (i:=1) rfl
 (try simp (maxSteps:=999999) (disch:=try exact ZD) only[ZB,zrq,g3,c2,l2])
 refine zb55 hP hT hs ok.prs ok.prn (by simp only[List.length_append];omega) s3 _ fun bf4 H4 s4=>?_
 have g4:=s4.get (i:=1) rfl
 (try simp (maxSteps:=999999) (disch:=try exact ZD) only[ZB,zrp,g4,c4,l3])
 refine zb3q hP hs ok.wins ok.win (by simp only[List.length_append];omega) s4 _ fun bf5 H5 s5=>?_
 have g5:=s5.get (i:=1) rfl
 (try simp (maxSteps:=999999) (disch:=try exact ZD) only[ZB,zro,g5,c5,l4])
 refine zb57 hP hs ok.uns ok.unn (by simp only[List.length_append];omega) s5 _ fun bf6 H6 s6=>?_
 have s7:=zm5 s6
 (try simp (maxSteps:=999999) (disch:=try exact ZD) only[ZB])
 refine hQ bf6 H6 ?_
 simp only[List.append_assoc] at s7
 simp only[zxt,List.append_assoc]
 exact s7
def hexW (k:ByteArray):ByteArray:=sv (hexl (bv k))
def zz4 (r:Rl):List UInt8:=ze4 zbvl [.n r.part,.s (levW r.level)]
def zo9 (u:PUs):List UInt8:=ze4 zbgp [.s u.name,.s (hexW u.key)] ++ u.rs.flatMap zz4
def z7l (s:Se3):List UInt8:=ze4 zhz [.n s.sy.millis] ++ ze4 zkf [.n s.sy.frame] ++ ze4 zso [.n s.idle]
def z3w (s:Se3):List UInt8:=z7l s ++ zxt s.sy ++ s.us.flatMap zo9
def z3x (s:Se3):ByteArray × Int:=if zvo s.sy s.us s.idle≠0 then (zol,zvo s.sy s.us s.idle) else if (z3w s).length > 65536 then (zol,2) else (⟨(z3w s).toArray⟩,0)
structure UsOk (u:PUs):Prop where
 name:u.name.size≠0∧u.name.size≤24
 key:16≤u.key.size∧u.key.size≤64
 rs:∀ r∈u.rs,zd5 r.part∧1≤r.level∧r.level≤4
theorem zbut {t:Int} (h0:1≤t) (h1:t≤4):(Wd.s (levW t)).Ok:=by
 obtain rfl | rfl | rfl | rfl:t=1∨t=2∨t=3∨t=4:=by omega
 all_goals exact⟨by decide,by decide⟩
theorem zb0y (hT:Tabs H) {t:Int} (h0:1≤t) (h1:t≤4):zn5 5 1 (ptr gid_conf_levels 0) (i64 t)=some (ptr gid_conf_levels t.toNat)∧zes (H.get gid_conf_levels) t.toNat=some (.string (levW t)):=by
 obtain⟨r,hg⟩:=hT.levels
 rw[hg]
 obtain rfl | rfl | rfl | rfl:t=1∨t=2∨t=3∨t=4:=by omega
 all_goals exact⟨rfl,rfl⟩
theorem zbbs {r:Rl} (h:zd5 r.part∧1≤r.level∧r.level≤4):(zz4 r).length≤60000:=zc7 (by decide) (fun d hd=>by
 simp only[List.mem_cons,List.not_mem_nil,or_false] at hd
 rcases hd with rfl | rfl
 ·exact h.1
 ·exact zbut h.2.1 h.2.2) (by simp)
theorem zbee {k:ByteArray} (h:16≤k.size∧k.size≤64):(Wd.s (hexW k)).Ok:=by
 have:(hexW k).size=2 * k.size:=by rw[hexW,zbcl,z4m,zci]
 exact⟨by omega,by omega⟩
theorem zb0z {G1 G4:List V→M V} {b:Nat} {bf:Option Nat} {l:List UInt8} {v a1 a2 a3:V} {rs:List Rl} (hP:zn4 H0) (hT:Tabs H0) (hv:Sl H0 v rs) (hb:∀ r∈rs,zd5 r.part∧1≤r.level∧r.level≤4) (hn:rs.length≤1048576) (hl:l.length≤1000000000000) (h:Hp H0 H (wrt b bf l :: L)) (Q:Out→Heap→Prop)
  (hQ:∀ bf' H',Hp H0 H' (wrt b bf' (l ++ rs.flatMap zz4) :: L)→Q (.brk 2 [ptr b 0,a1,a2,a3]) H') :
  wp (zba zbm (zvh G1 zku zgq zkv z3u z3v) [ptr b 0,a1,a2,a3,v,i64 rs.length,i64 0]) Q H:=by
 refine zbo rs.length (by omega) (fun j vs H'=>∃ bf',vs=[ptr b 0,a1,a2,a3,v,i64 rs.length,i64 j]∧Hp H0 H' (wrt b bf' (l ++ (rs.take j).flatMap zz4) :: L)) ⟨bf,rfl,by simpa using h⟩ ?_
 rintro j vs H1 hj ⟨bf1,rfl,s1⟩
 by_cases hlt:j < rs.length
 case neg =>
  have:j=rs.length:=by omega
  subst this
  rw[List.take_length] at s1
  (try simp (maxSteps:=999999) (disch:=try exact ZD) only[ZB,zvh])
  exact hQ bf1 H1 s1
 have hp:=s1.ro hv
 have b1:=hp.addr' (n:=2) rfl (k := .i64) (i:=j) (by omega) (by omega)
 rw[Int.toNat_natCast] at b1
 have d1:=fun Q=>hp.ldn' (Q:=Q) (n:=2) rfl hlt default
 have hg1:=hb _ (zbh (d:=default) hlt)
 have hacc:((rs.take j).flatMap zz4).length≤60000 * (rs.take j).length:=zby fun p hp=>zbbs (hb p (List.mem_of_mem_take hp))
 have htl:(rs.take j).length=j:=by rw[List.length_take];omega
 rw[htl] at hacc
 rw[zc2 (d:=default) hlt]
 simp only[List.flatMap_append,List.flatMap_cons,List.flatMap_nil,List.append_nil]
 generalize rs.getD j default=g at *
 obtain⟨pa,le⟩:=g
 simp only at hg1
 obtain⟨q1,q2,q3⟩:=hg1
 (try simp (maxSteps:=999999) (disch:=try exact ZD) only[ZA,zo,zn,zm,zk,zi,zj,zg,ze,zvh,zbc8,b1,d1,zbbl])
 have s2:Hp H0 (H1.push (some (.cells true [i64 pa,i64 le]))) (wrt b bf1 (l ++ (rs.take j).flatMap zz4) :: cel H1.next [i64 pa,i64 le] :: L):=znu (s1.newc _)
 generalize hH2:H1.push (some (.cells true [i64 pa,i64 le]))=H2 at *
 generalize H1.next=X at *
 have gX:=s2.get (i:=1) rfl
 obtain⟨tc1,tc2⟩:=zb0y (hT.keep0 s2.keeps) q2 q3
 (try simp (maxSteps:=999999) (disch:=try exact ZD) only[ZB,gX,tc1,tc2])
 refine (zdf (cs:=zbj [Wd.n pa,Wd.s (levW le)]) (by decide) (by rfl)).mpr ?_
 (try simp (maxSteps:=999999) (disch:=try exact ZD) only[ZB])
 refine znt [.n pa,.s (levW le)] hP s2 (by decide) (fun d hd=>by
  simp only[List.mem_cons,List.not_mem_nil,or_false] at hd
  rcases hd with rfl | rfl
  ·exact q1
  ·exact zbut q2 q3) (by simp) rfl (by simp only[List.length_append];omega) _ fun bf' H' s3=>?_
 (try simp (maxSteps:=999999) (disch:=try exact ZD) only[ZB,zbc7])
 exact⟨hlt,bf',rfl,by
  have s4:=zm5 s3
  rw[List.append_assoc] at s4
  exact s4⟩
theorem zbgw {u:PUs} (h:UsOk u) (hn:u.rs.length≤1048576):(zo9 u).length≤63000000000:=by
 have a1:=zby (f:=zz4) (m:=60000) fun p hp=>zbbs (h.rs p hp)
 have a2:(ze4 zbgp [.s u.name,.s (hexW u.key)]).length≤60000:=zc7 (by decide) (fun d hd=>by
  simp only[List.mem_cons,List.not_mem_nil,or_false] at hd
  rcases hd with rfl | rfl
  ·exact⟨h.name.1,by have:=h.name.2;omega⟩
  ·exact zbee h.key) (by simp)
 simp only[zo9,List.length_append]
 omega
theorem zb00 {G1:List V→M V} {b:Nat} {bf:Option Nat} {l:List UInt8} {v:V} {ul:List Us} (hP:zn4 H0) (hT:Tabs H0) (hv:Users H0 v ul) (ok:∀ u∈ul,UsOk u.p) (hn:ul.length≤8) (hl:l.length≤1000000000) (h:Hp H0 H (wrt b bf l :: L)) (Q:Out→Heap→Prop)
  (hQ:∀ bf' H',Hp H0 H' (wrt b bf' (l ++ (ul.map Us.p).flatMap zo9) :: L)→Q (.brk 0 [ptr b 0]) H') :
  wp (zba zbm (zvi G1 zku zgq zkv z3u z3v) [ptr b 0,v,i64 ul.length,i64 0]) Q H:=by
 refine zbo ul.length (by omega) (fun j vs H'=>∃ bf',vs=[ptr b 0,v,i64 ul.length,i64 j]∧Hp H0 H' (wrt b bf' (l ++ ((ul.take j).map Us.p).flatMap zo9) :: L)) ⟨bf,rfl,by simpa using h⟩ ?_
 rintro j vs H1 hj ⟨bf1,rfl,s1⟩
 by_cases hlt:j < ul.length
 case neg =>
  have:j=ul.length:=by omega
  subst this
  rw[List.take_length] at s1
  (try simp (maxSteps:=999999) (disch:=try exact ZD) only[ZB,zvi])
  exact hQ bf1 H1 s1
 have hp:=s1.ro hv.out
 have b1:=hp.addr' (n:=3) rfl (k := .i64) (i:=j) (by omega) (by omega)
 rw[Int.toNat_natCast] at b1
 have d1:=fun Q=>hp.ldn' (Q:=Q) (n:=3) rfl hlt default
 have hok:=ok _ (zbh (d:=default) hlt)
 have hacc:(((ul.take j).map Us.p).flatMap zo9).length≤63000000000 * ((ul.take j).map Us.p).length:=zby fun p hp=>by
  obtain⟨u,hu,rfl⟩:=List.mem_map.1 hp
  have hm:=List.mem_of_mem_take hu
  exact zbgw (ok u hm) (hv.inn u hm).2
 have htl:((ul.take j).map Us.p).length=j:=by rw[List.length_map,List.length_take];omega
 rw[htl] at hacc
 have hat:=hv.at hlt
 rw[zc2 (d:=default) hlt]
 simp only[List.map_append,List.map_cons,List.map_nil,List.flatMap_append,List.flatMap_cons,List.flatMap_nil,List.append_nil]
 generalize ul.getD j default=u at *
 obtain⟨k1,k2,k3⟩:=hok
 have hone:=zbbm u
 have k1':u.name.size≠0∧u.name.size≤24:=k1
 have k2':16≤u.key.size∧u.key.size≤64:=k2
 (try simp (maxSteps:=999999) (disch:=try exact ZD) only[ZA,zo,zn,zm,zk,zi,zj,zg,ze,zvi,zbda,b1,d1,z7d])
 have s2:Hp H0 (H1.push (some (.cells true [.string u.name,.string u.key,u.rs.v]))) (wrt b bf1 (l ++ ((ul.take j).map Us.p).flatMap zo9) :: cel H1.next [.string u.name,.string u.key,u.rs.v] :: L):=znu (s1.newc _)
 generalize hH2:H1.push (some (.cells true [.string u.name,.string u.key,u.rs.v]))=H2 at *
 generalize H1.next=X at *
 have gX:=s2.get (i:=1) rfl
 (try simp (maxSteps:=999999) (disch:=try exact ZD) only[ZB,gX])
 refine zbus H2 u.key (by omega) _ fun H3 k23=>?_
 have s3:=s2.keep0 k23
 have gX3:=s3.get (i:=1) rfl
 (try simp (maxSteps:=999999) (disch:=try exact ZD) only[ZB])
 refine (zdf (cs:=zbj [Wd.s u.name,Wd.s (hexW u.key)]) (by decide) (by rfl)).mpr ?_
 (try simp (maxSteps:=999999) (disch:=try exact ZD) only[ZB])
 have lu:(ze4 zbgp [.s u.name,.s (hexW u.key)]).length≤60000:=zc7 (by decide) (fun d hd=>by
  simp only[List.mem_cons,List.not_mem_nil,or_false] at hd
  rcases hd with rfl | rfl
  ·exact⟨k1'.1,by omega⟩
  ·exact zbee k2) (by simp)
 refine znt [.s u.name,.s (hexW u.key)] hP s3 (by decide) (fun d hd=>by
  simp only[List.mem_cons,List.not_mem_nil,or_false] at hd
  rcases hd with rfl | rfl
  ·exact⟨k1'.1,by omega⟩
  ·exact zbee k2) (by simp) rfl (by simp only[List.length_append];omega) _ fun bf' H4 s4=>?_
 have gX4:=s4.get (i:=1) rfl
 have lr:=hat.1.len
 (try simp (maxSteps:=999999) (disch:=try exact ZD) only[ZB,gX3,gX4,lr])
 refine zb0z (G4:=G1) hP hT hat.1 k3 hat.2 (by simp only[List.length_append];have:(ze4 ⟨#[117,115,101,114]⟩ [.s u.name,.s (hexW u.key)]).length≤60000:=lu;omega) s4 _ fun bf5 H5 s5=>?_
 (try simp (maxSteps:=999999) (disch:=try exact ZD) only[ZB,zbc9])
 exact⟨hlt,bf5,rfl,by
  have s6:=zm5 s5
  simp only[List.append_assoc] at s6
  simp only[zo9,List.append_assoc]
  exact s6⟩
theorem zb59 {i b:Nat} {bf:Option Nat} {l:List UInt8} {Q:V→Heap→Prop} (h:Hp H0 H L) (hi:L[i]? = some (wrt b bf l)) (hl:l≠[]) (hQ:Q (i64 l.length) H):wp (z3u [ptr b 0]) Q H:=by
 obtain⟨⟨u,hu⟩,q⟩:=h.at hi
 cases bf with
 | none=>exact absurd q hl
 | some g =>
  obtain⟨q1,q2⟩:H.get g=some (.buf 5 l)∧l≠[]:=q
  refine⟨_,_,?_,hQ⟩
  show z3u [.pointer (some ⟨b,0,none⟩)] H=_
  unfold z3u
  simp only[hu,q1]
  rfl
theorem zb6a {i b:Nat} {bf:Option Nat} {l:List UInt8} {Q:V→Heap→Prop} (h:Hp H0 H L) (hi:L[i]? = some (wrt b bf l)) (hl:l≠[]) (hb:l.length≤10000000000000) (hQ:∀ H',Keeps [] H0 H'→Q (.string ⟨l.toArray⟩) H'):wp (z3v [ptr b 0]) Q H:=by
 obtain⟨⟨u,hu⟩,q⟩:=h.at hi
 have hnew:=h.newAt hi
 cases bf with
 | none=>exact absurd q hl
 | some g =>
  obtain⟨q1,q2⟩:H.get g=some (.buf 5 l)∧l≠[]:=q
  have hg:=hnew g (by simp[wrt])
  refine⟨_,H.set g none,?_,hQ _ (h.keeps.trans (Keeps.set (S:=[g]) (by simp)) (fun c hc hm=>by simp at hm;omega))⟩
  show z3v [.pointer (some ⟨b,0,none⟩)] H=_
  unfold z3v
  simp only[hu,q1]
  exact if_pos ⟨trivial,trivial,trivial,q2,hb⟩
structure SeOk (s:Se3):Prop where
 sy:ShOk s.sy
 us:∀ u∈s.us,UsOk u
 un:s.us.length≤8
 millis:zd5 s.sy.millis
 frame:zd5 s.sy.frame
 idle:zd5 s.idle
theorem z05 {k:ByteArray} {n:Int} (hk:k.size≤10000) (h:zd5 n):(ze4 k [.n n]).length≤60000:=zc7 hk (fun d hd=>by
 simp only[List.mem_cons,List.not_mem_nil,or_false] at hd
 subst hd
 exact h) (by simp)
theorem zb3u {G:List V→M V} {x:SyV} {v:V} {l:List Us} {s:Se3} (hP:zn4 H) (hT:Tabs H) (hs:SysAt H x s.sy) (hu:Users H v l) (hp:l.map Us.p=s.us) (ok:zvo s.sy s.us s.idle=0→SeOk s) (Q:V→Heap→Prop)
  (hQ:∀ H',Keeps [] H H'→Q (.tuple #[.string (z3x s).1,i64 (z3x s).2]) H'):wp (zt4 G zku zgq zkv z3u z3v [.agg (x.cs s.sy ++ [v,i64 s.idle]).toArray]) Q H:=by
 show wp (z5x G zku zgq zkv z3u z3v (.agg (x.cs s.sy ++ [v,i64 s.idle]).toArray)) Q H
 have ho:(x.cs s.sy ++ [v,i64 s.idle]).all Value.isOne=true:=by rw[List.all_append,hs.one];simp[hu.out.isOne]
 have s1:Hp H (H.push (some (.cells true (x.cs s.sy ++ [v,i64 s.idle])))) [cel H.next (x.cs s.sy ++ [v,i64 s.idle])]:=(Hp.start H).newc _
 unfold z5x
 rw[z7,z7]
 refine (zb0 ho).mpr ?_
 have c3:(x.cs s.sy ++ [v,i64 s.idle])[3]? = some (i64 s.sy.frame):=rfl
 have c6:(x.cs s.sy ++ [v,i64 s.idle])[6]? = some (i64 s.sy.millis):=rfl
 have c7:(x.cs s.sy ++ [v,i64 s.idle])[7]? = some v:=rfl
 have c8:(x.cs s.sy ++ [v,i64 s.idle])[8]? = some (i64 s.idle):=rfl
 have d7:∀ {K:Heap} (P:Nat),K.get P=some (.cells true (x.cs s.sy ++ [v,i64 s.idle]))→∀ Q,wp (ldn 7 (ptr P 0)) Q K↔Q (.agg (x.cs s.sy).toArray) K:=fun P hg Q=>by
  rw[zbz,hg,zy2 (by show 0 + 7≤9;omega)]
  rfl
 generalize x.cs s.sy ++ [v,i64 s.idle]=cs at *
 generalize H.push (some (.cells true cs))=H1 at *
 generalize H.next=P at *
 have g1:=s1.get (i:=0) rfl
 have e1:=d7 P g1
 (try simp (maxSteps:=999999) (disch:=try exact ZD) only[ZA,zo,zn,zm,zk,zi,zj,zg,ze,e1,g1,c7,c8])
 refine zbj0 (hs.keep0 s1.keeps) (hu.keep0 s1.keeps) hp s.idle _ fun a H2 k2=>?_
 have s2:=s1.keep0 k2
 unfold z3x at hQ
 by_cases hn:zvo s.sy s.us s.idle=0
 case neg =>
  rw[if_pos hn] at hQ
  have e2:decide (zvo s.sy s.us s.idle≠0)=true:=decide_eq_true hn
  (try simp (maxSteps:=999999) (disch:=try exact ZD) only[ZB,e2])
  exact hQ _ s2.keeps
 rw[if_neg (fun q=>q hn)] at hQ
 obtain⟨oks,oku,okn,okm,okf,oki⟩:=ok hn
 have e2:decide (zvo s.sy s.us s.idle≠0)=false:=decide_eq_false (fun q=>q hn)
 have eb:build [(Value.pointer none:V),Value.slice none 0 0] []=some (.agg [.pointer none,.slice none 0 0].toArray):=rfl
 have wB:∀ Q,wp (bldM z29 (.agg [.pointer none,.slice none 0 0].toArray)) Q H2↔Q (ptr H2.next 0) (H2.push (some (.bld 74 false none 0))):=fun Q=>zb3n _
 have s3:=zb3o s2
 have g3:=s3.get (i:=1) rfl
 have n1:=z05 (k:=zhz) (by decide) okm
 have n2:=z05 (k:=zkf) (by decide) okf
 have n3:=z05 (k:=zso) (by decide) oki
 (try simp (maxSteps:=999999) (disch:=try exact ZD) only[ZA,zo,zn,zk,zi,zj,zg,ze,e2,zbdd,eb,wB])
 generalize H2.push (some (.bld 74 false none 0))=H3 at *
 generalize H2.next=b at *
 (try simp (maxSteps:=999999) (disch:=try exact ZD) only[ZA,zo,zn,zm,zk,zi,zj,zg,ze,g3,c6])
 refine (zdf (cs:=zbj [Wd.n s.sy.millis]) (by decide) (by rfl)).mpr ?_
 (try simp (maxSteps:=999999) (disch:=try exact ZD) only[ZA,zo,zn,zm,zk,zi,zj,zg,ze])
 refine znt [.n s.sy.millis] hP s3 (by decide) (fun d hd=>by
  simp only[List.mem_cons,List.not_mem_nil,or_false] at hd
  subst hd
  exact okm) (by simp) rfl (by simp) _ fun bf4 H4 s4=>?_
 have g4:=s4.get (i:=1) rfl
 (try simp (maxSteps:=999999) (disch:=try exact ZD) only[ZA,zo,zn,zm,zk,zi,zj,zg,ze,g4,c3])
 refine (zdf (cs:=zbj [Wd.n s.sy.frame]) (by decide) (by rfl)).mpr ?_
 (try simp (maxSteps:=999999) (disch:=try exact ZD) only[ZA,zo,zn,zm,zk,zi,zj,zg,ze])
 refine znt [.n s.sy.frame] hP s4 (by decide) (fun d hd=>by
  simp only[List.mem_cons,List.not_mem_nil,or_false] at hd
  subst hd
  exact okf) (by simp) rfl (by
   have:(ze4 ⟨#[109,105,108,108,105,115]⟩ [.n s.sy.millis]).length≤60000:=n1
   simp only[List.length_append,List.length_nil];omega) _ fun bf5 H5 s5=>?_
 have g5:=s5.get (i:=1) rfl
 (try simp (maxSteps:=999999) (disch:=try exact ZD) only[ZA,zo,zn,zm,zk,zi,zj,zg,ze,g5,c8])
 refine (zdf (cs:=zbj [Wd.n s.idle]) (by decide) (by rfl)).mpr ?_
 (try simp (maxSteps:=999999) (disch:=try exact ZD) only[ZA,zo,zn,zm,zk,zi,zj,zg,ze])
 refine znt [.n s.idle] hP s5 (by decide) (fun d hd=>by
  simp only[List.mem_cons,List.not_mem_nil,or_false] at hd
  subst hd
  exact oki) (by simp) rfl (by
   have:(ze4 ⟨#[109,105,108,108,105,115]⟩ [.n s.sy.millis]).length≤60000:=n1
   have:(ze4 ⟨#[102,114,97,109,101]⟩ [.n s.sy.frame]).length≤60000:=n2
   simp only[List.length_append,List.length_nil];omega) _ fun bf6 H6 s6=>?_
 have s6':Hp H H6 (wrt b bf6 (z7l s) :: [cel P cs]):=s6
 clear s6
 have hhl:(z7l s).length≤180000:=by simp only[z7l,List.length_append];omega
 have hhn:z7l s≠[]:=by simp[z7l,ze4]
 have g6:=s6'.get (i:=1) rfl
 have e6:=d7 P g6
 (try simp (maxSteps:=999999) (disch:=try exact ZD) only[ZA,zo,zn,zm,zk,zi,zj,zg,ze,e6])
 refine zbx4 hP hT hs oks (by omega) s6' _ fun bf7 H7 s7=>?_
 have g7:=s7.get (i:=1) rfl
 have hvl:=hu.out.len
 have hsl:=zbed oks
 (try simp (maxSteps:=999999) (disch:=try exact ZD) only[ZB,g7,c7,hvl])
 refine zb00 hP hT hu (fun u hm=>oku _ (by rw[← hp];exact List.mem_map_of_mem hm)) (by rw[← hp,List.length_map] at okn;exact okn) (by simp only[List.length_append];omega) s7 _ fun bf8 H8 s8=>?_
 rw[hp] at s8
 have s8':Hp H H8 (wrt b bf8 (z3w s) :: [cel P cs]):=s8
 clear s8
 have hne:z3w s≠[]:=by simp only[z3w,ne_eq,List.append_eq_nil_iff,not_and];intro q;exact absurd q.1 hhn
 (try simp (maxSteps:=999999) (disch:=try exact ZD) only[ZB,zbdc])
 refine zb59 s8' (i:=0) rfl hne ?_
 by_cases hlen:(z3w s).length > 65536
 ·rw[if_pos hlen] at hQ
  have e8:decide (((z3w s).length:Int) > 65536)=true:=decide_eq_true (by omega)
  (try simp (maxSteps:=999999) (disch:=try exact ZD) only[ZB,e8])
  exact hQ _ s8'.keeps
 rw[if_neg hlen] at hQ
 have e8:decide (((z3w s).length:Int) > 65536)=false:=decide_eq_false (by omega)
 (try simp (maxSteps:=999999) (disch:=try exact ZD) only[ZB,e8,zbdb])
 refine zb6a s8' (i:=0) rfl hne (by omega) fun H9 k9=>?_
 (try simp (maxSteps:=999999) (disch:=try exact ZD) only[ZB])
 exact hQ _ k9
end Go.AM.Cap
