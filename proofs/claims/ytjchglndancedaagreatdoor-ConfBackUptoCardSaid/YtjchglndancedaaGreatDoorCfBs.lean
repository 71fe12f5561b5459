import Derived.Test.YtjchglndancedaaGreatDoorShaF
import Derived.Test.YtjchglndancedaaGreatDoorCfV
import Derived.Test.YtjchglndancedaaGreatDoorAmIn
set_option linter.all false
/- conf: a system's lines; Show -/
set_option maxHeartbeats 16000000
namespace Go.AM.Cap
open Go.AM Go.Proofs
variable {H0 H:Heap} {L:List Thing}
structure ShOk (s:Sy):Prop where
 pts:s.pts.length≤64
 typ:∀ p∈s.pts,1≤p.typ∧p.typ≤3
 grn:s.grs.length≤1000
 grs:∀ g∈s.grs,zer g.part∧zer g.point
 prn:s.prs.length≤1000
 prs:∀ q∈s.prs,zer q.src∧zer q.dst∧zer q.cap∧1≤q.typ∧q.typ≤3
 win:s.wins.length≤1000
 wins:∀ w∈s.wins,zer w.part∧zer w.start∧zer w.len
 unn:s.uns.length≤100
 uns:∀ u∈s.uns,UnOk u
theorem zbem {p:Pt} (h:1≤p.typ∧p.typ≤3):(z0g p).length≤60000:=zdt (by cases p.out <;> decide) (fun d hd=>by
 simp only[List.mem_cons,List.not_mem_nil,or_false] at hd
 subst hd
 exact zqi h.1 h.2) (by simp)
theorem zben {g:Gr} (h:zer g.part∧zer g.point):(z0h g).length≤60000:=zdt (by cases g.write <;> decide) (fun d hd=>by
 simp only[List.mem_cons,List.not_mem_nil,or_false] at hd
 rcases hd with rfl | rfl
 ·exact h.1
 ·exact h.2) (by simp)
theorem zbeo {q:Port} (h:zer q.src∧zer q.dst∧zer q.cap∧1≤q.typ∧q.typ≤3):(zqf q).length≤60000:=by
 obtain⟨q1,q2,q3,q4,q5⟩:=h
 unfold zqf
 split
 ·exact zdt (by decide) (fun d hd=>by
   simp only[List.mem_cons,List.not_mem_nil,or_false] at hd
   rcases hd with rfl | rfl | rfl
   ·exact q1
   ·exact q2
   ·exact zqi q4 q5) (by simp)
 ·exact zdt (by decide) (fun d hd=>by
   simp only[List.mem_cons,List.not_mem_nil,or_false] at hd
   rcases hd with rfl | rfl | rfl | rfl
   ·exact q1
   ·exact q2
   ·exact zqi q4 q5
   ·exact q3) (by simp)
theorem zbep {w:Win} (h:zer w.part∧zer w.start∧zer w.len):(zqg w).length≤60000:=by
 obtain⟨q1,q2,q3⟩:=h
 unfold zqg
 split
 ·exact zdt (by decide) (fun d hd=>by
   simp only[List.mem_cons,List.not_mem_nil,or_false] at hd
   rcases hd with rfl | rfl
   ·exact q2
   ·exact q3) (by simp)
 ·exact zdt (by decide) (fun d hd=>by
   simp only[List.mem_cons,List.not_mem_nil,or_false] at hd
   rcases hd with rfl | rfl | rfl
   ·exact q1
   ·exact q2
   ·exact q3) (by simp)
theorem zbiq {s:Sy} (h:ShOk s):(zy2 s).length≤700000000:=by
 have a1:=zdj (f:=z0g) (m:=60000) fun p hp=>zbem (h.typ p hp)
 have a2:=zdj (f:=z0h) (m:=60000) fun p hp=>zben (h.grs p hp)
 have a3:=zdj (f:=zqf) (m:=60000) fun p hp=>zbeo (h.prs p hp)
 have a4:=zdj (f:=zqg) (m:=60000) fun p hp=>zbep (h.wins p hp)
 have a5:=zdj (f:=zqh) (m:=4000000) fun p hp=>by
  obtain⟨r1,r2,r3,r4⟩:=h.uns p hp
  exact zbbg r1 r2 r3 r4
 have:=h.pts;have:=h.grn;have:=h.prn;have:=h.win;have:=h.unn
 simp only[zy2,List.length_append]
 omega
theorem zbqk {b:Nat} {bf:Option Nat} {l:List UInt8} {x:SyV} {s:Sy} (hP:zj4 H0) (hT:Tabs H0) (hs:SysAt H0 x s) (ok:ShOk s) (hl:l.length≤200000000) (h:Hp H0 H (wrt b bf l :: L)) (Q:V→Heap→Prop)
  (hQ:∀ bf' H',Hp H0 H' (wrt b bf' (l ++ zy2 s) :: L)→Q (.tuple #[]) H'):wp (zh0 zii ze2 zij [ptr b 0,.agg (x.cs s).toArray]) Q H:=by
 show wp (zlx zii ze2 zij (ptr b 0) (.agg (x.cs s).toArray)) Q H
 have ho:=hs.one
 obtain⟨ul,hU,hul⟩:=hs.uns
 have hlen:s.uns.length=ul.length:=by rw[← hul,List.length_map]
 have l0:=hs.pts.len
 have l1:=hs.grs.len
 have l2:=hs.prs.len
 have l3:=hs.wins.len
 have l4:=hU.out.len
 rw[← hlen] at l4
 have a1:=zdj (f:=z0g) (m:=60000) fun p hp=>zbem (ok.typ p hp)
 have a2:=zdj (f:=z0h) (m:=60000) fun p hp=>zben (ok.grs p hp)
 have a3:=zdj (f:=zqf) (m:=60000) fun p hp=>zbeo (ok.prs p hp)
 have a4:=zdj (f:=zqg) (m:=60000) fun p hp=>zbep (ok.wins p hp)
 have o1:=ok.pts;have o2:=ok.grn;have o3:=ok.prn;have o4:=ok.win;have o5:=ok.unn
 have s1:Hp H0 (H.push (some (.cells true (x.cs s)))) (wrt b bf l :: cel H.next (x.cs s) :: L):=zt3 (h.newc _)
 unfold zlx
 rw[z6,z6]
 refine (zcg ho).mpr ?_
 generalize H.push (some (.cells true (x.cs s)))=H1 at *
 generalize H.next=P at *
 have c0:(x.cs s)[0]? = some x.pv:=rfl
 have c1:(x.cs s)[1]? = some x.gv:=rfl
 have c2:(x.cs s)[2]? = some x.qv:=rfl
 have c4:(x.cs s)[4]? = some x.wv:=rfl
 have c5:(x.cs s)[5]? = some x.uv:=rfl
 have g1:=s1.get (i:=1) rfl
 (try simp(maxSteps:=1000000)(disch:=first|omega|(simp only[Z3];omega)|(simp;done)|assumption|decide|(apply not_not_intro;assumption))only[ZB,g1,c0,l0])
 refine zby1 hP hT hs ok.typ ok.pts (by omega) s1 _ fun bf2 H2 s2=>?_
 have g2:=s2.get (i:=1) rfl
 (try simp(maxSteps:=1000000)(disch:=first|omega|(simp only[Z3];omega)|(simp;done)|assumption|decide|(apply not_not_intro;assumption))only[ZB,zp3,g2,c1,l1])
 refine zby2 hP hs ok.grs ok.grn (by simp only[List.length_append];omega) s2 _ fun bf3 H3 s3=>?_
 have g3:=s3.get (i:=1) rfl
 (try simp(maxSteps:=1000000)(disch:=first|omega|(simp only[Z3];omega)|(simp;done)|assumption|decide|(apply not_not_intro;assumption))only[ZB,zp2,g3,c2,l2])
 refine zby3 hP hT hs ok.prs ok.prn (by simp only[List.length_append];omega) s3 _ fun bf4 H4 s4=>?_
 have g4:=s4.get (i:=1) rfl
 (try simp(maxSteps:=1000000)(disch:=first|omega|(simp only[Z3];omega)|(simp;done)|assumption|decide|(apply not_not_intro;assumption))only[ZB,zp1,g4,c4,l3])
 refine zbwf hP hs ok.wins ok.win (by simp only[List.length_append];omega) s4 _ fun bf5 H5 s5=>?_
 have g5:=s5.get (i:=1) rfl
 (try simp(maxSteps:=1000000)(disch:=first|omega|(simp only[Z3];omega)|(simp;done)|assumption|decide|(apply not_not_intro;assumption))only[ZB,zp0,g5,c5,l4])
 refine zby6 hP hs ok.uns ok.unn (by simp only[List.length_append];omega) s5 _ fun bf6 H6 s6=>?_
 have s7:=zsw s6
 (try simp(maxSteps:=1000000)(disch:=first|omega|(simp only[Z3];omega)|(simp;done)|assumption|decide|(apply not_not_intro;assumption))only[ZB])
 refine hQ bf6 H6 ?_
 simp only[List.append_assoc] at s7
 simp only[zy2,List.append_assoc]
 exact s7
def zy3 (k:ByteArray):ByteArray:=sv (z7w (bv k))
def z3i (r:Rl):List UInt8:=zgl z82 [.n r.part,.s (levW r.level)]
def zrn (u:PUs):List UInt8:=zgl z03 [.s u.name,.s (zy3 u.key)] ++ u.rs.flatMap z3i
def zbeq (s:Se3):List UInt8:=zgl zdv [.n s.sy.millis] ++ zgl zgd [.n s.sy.frame] ++ zgl zno [.n s.idle]
def zwv (s:Se3):List UInt8:=zbeq s ++ zy2 s.sy ++ s.us.flatMap zrn
def z3j (s:Se3):ByteArray × Int:=if zou s.sy s.us s.idle≠0 then (zh4,zou s.sy s.us s.idle) else if (zwv s).length > 65536 then (zh4,2) else (⟨(zwv s).toArray⟩,0)
structure UsOk (u:PUs):Prop where
 name:u.name.size≠0∧u.name.size≤24
 key:16≤u.key.size∧u.key.size≤64
 rs:∀ r∈u.rs,zer r.part∧1≤r.level∧r.level≤4
theorem zbtn {t:Int} (h0:1≤t) (h1:t≤4):(Wd.s (levW t)).Ok:=by
 obtain rfl | rfl | rfl | rfl:t=1∨t=2∨t=3∨t=4:=by omega
 all_goals exact⟨by decide,by decide⟩
theorem zbto (hT:Tabs H) {t:Int} (h0:1≤t) (h1:t≤4):zmu 5 1 (ptr gid_conf_levels 0) (i64 t)=some (ptr gid_conf_levels t.toNat)∧zie (H.get gid_conf_levels) t.toNat=some (.string (levW t)):=by
 obtain⟨r,hg⟩:=hT.levels
 rw[hg]
 obtain rfl | rfl | rfl | rfl:t=1∨t=2∨t=3∨t=4:=by omega
 all_goals exact⟨rfl,rfl⟩
theorem zber {r:Rl} (h:zer r.part∧1≤r.level∧r.level≤4):(z3i r).length≤60000:=zdt (by decide) (fun d hd=>by
 simp only[List.mem_cons,List.not_mem_nil,or_false] at hd
 rcases hd with rfl | rfl
 ·exact h.1
 ·exact zbtn h.2.1 h.2.2) (by simp)
theorem zbir {k:ByteArray} (h:16≤k.size∧k.size≤64):(Wd.s (zy3 k)).Ok:=by
 have:(zy3 k).size=2 * k.size:=by rw[zy3,z3y,z1q,zcy]
 exact⟨by omega,by omega⟩
theorem zbtp {G1 G4:List V→M V} {b:Nat} {bf:Option Nat} {l:List UInt8} {v a1 a2 a3:V} {rs:List Rl} (hP:zj4 H0) (hT:Tabs H0) (hv:Sl H0 v rs) (hb:∀ r∈rs,zer r.part∧1≤r.level∧r.level≤4) (hn:rs.length≤1048576) (hl:l.length≤1000000000000) (h:Hp H0 H (wrt b bf l :: L)) (Q:Out→Heap→Prop)
  (hQ:∀ bf' H',Hp H0 H' (wrt b bf' (l ++ rs.flatMap z3i) :: L)→Q (.brk 2 [ptr b 0,a1,a2,a3]) H') :
  wp (zbg zby (zt0 G1 zii ze2 zij zvy zvz) [ptr b 0,a1,a2,a3,v,i64 rs.length,i64 0]) Q H:=by
 refine zb2 rs.length (by omega) (fun j vs H'=>∃ bf',vs=[ptr b 0,a1,a2,a3,v,i64 rs.length,i64 j]∧Hp H0 H' (wrt b bf' (l ++ (rs.take j).flatMap z3i) :: L)) ⟨bf,rfl,by simpa using h⟩ ?_
 rintro j vs H1 hj ⟨bf1,rfl,s1⟩
 by_cases hlt:j < rs.length
 case neg =>
  have:j=rs.length:=by omega
  subst this
  rw[List.take_length] at s1
  (try simp(maxSteps:=1000000)(disch:=first|omega|(simp only[Z3];omega)|(simp;done)|assumption|decide|(apply not_not_intro;assumption))only[ZB,zt0])
  exact hQ bf1 H1 s1
 have hp:=s1.ro hv
 have b1:=hp.addr' (n:=2) rfl (k := .i64) (i:=j) (by omega) (by omega)
 rw[Int.toNat_natCast] at b1
 have d1:=fun Q=>hp.ldn' (Q:=Q) (n:=2) rfl hlt default
 have hg1:=hb _ (zb4 (d:=default) hlt)
 have hacc:((rs.take j).flatMap z3i).length≤60000 * (rs.take j).length:=zdj fun p hp=>zber (hb p (List.mem_of_mem_take hp))
 have htl:(rs.take j).length=j:=by rw[List.length_take];omega
 rw[htl] at hacc
 rw[zjr (d:=default) hlt]
 simp only[List.flatMap_append,List.flatMap_cons,List.flatMap_nil,List.append_nil]
 generalize rs.getD j default=g at *
 obtain⟨pa,le⟩:=g
 simp only at hg1
 obtain⟨q1,q2,q3⟩:=hg1
 (try simp(maxSteps:=1000000)(disch:=first|omega|(simp only[Z3];omega)|(simp;done)|assumption|decide|(apply not_not_intro;assumption))only[ZA,zp,zo,zm,zk,zj,zi,zh,ze,zt0,z8n,b1,d1,zbmx])
 have s2:Hp H0 (H1.push (some (.cells true [i64 pa,i64 le]))) (wrt b bf1 (l ++ (rs.take j).flatMap z3i) :: cel H1.next [i64 pa,i64 le] :: L):=zt3 (s1.newc _)
 generalize hH2:H1.push (some (.cells true [i64 pa,i64 le]))=H2 at *
 generalize H1.next=X at *
 have gX:=s2.get (i:=1) rfl
 obtain⟨tc1,tc2⟩:=zbto (hT.keep0 s2.keeps) q2 q3
 (try simp(maxSteps:=1000000)(disch:=first|omega|(simp only[Z3];omega)|(simp;done)|assumption|decide|(apply not_not_intro;assumption))only[ZB,gX,tc1,tc2])
 refine (zfq (cs:=zbp [Wd.n pa,Wd.s (levW le)]) (by decide) (by rfl)).mpr ?_
 (try simp(maxSteps:=1000000)(disch:=first|omega|(simp only[Z3];omega)|(simp;done)|assumption|decide|(apply not_not_intro;assumption))only[ZB])
 refine zml [.n pa,.s (levW le)] hP s2 (by decide) (fun d hd=>by
  simp only[List.mem_cons,List.not_mem_nil,or_false] at hd
  rcases hd with rfl | rfl
  ·exact q1
  ·exact zbtn q2 q3) (by simp) rfl (by simp only[List.length_append];omega) _ fun bf' H' s3=>?_
 (try simp(maxSteps:=1000000)(disch:=first|omega|(simp only[Z3];omega)|(simp;done)|assumption|decide|(apply not_not_intro;assumption))only[ZB,z8m])
 exact⟨hlt,bf',rfl,by
  have s4:=zsw s3
  rw[List.append_assoc] at s4
  exact s4⟩
theorem zbk9 {u:PUs} (h:UsOk u) (hn:u.rs.length≤1048576):(zrn u).length≤63000000000:=by
 have a1:=zdj (f:=z3i) (m:=60000) fun p hp=>zber (h.rs p hp)
 have a2:(zgl z03 [.s u.name,.s (zy3 u.key)]).length≤60000:=zdt (by decide) (fun d hd=>by
  simp only[List.mem_cons,List.not_mem_nil,or_false] at hd
  rcases hd with rfl | rfl
  ·exact⟨h.name.1,by have:=h.name.2;omega⟩
  ·exact zbir h.key) (by simp)
 simp only[zrn,List.length_append]
 omega
theorem zbtq {G1:List V→M V} {b:Nat} {bf:Option Nat} {l:List UInt8} {v:V} {ul:List Us} (hP:zj4 H0) (hT:Tabs H0) (hv:Users H0 v ul) (ok:∀ u∈ul,UsOk u.p) (hn:ul.length≤8) (hl:l.length≤1000000000) (h:Hp H0 H (wrt b bf l :: L)) (Q:Out→Heap→Prop)
  (hQ:∀ bf' H',Hp H0 H' (wrt b bf' (l ++ (ul.map Us.p).flatMap zrn) :: L)→Q (.brk 0 [ptr b 0]) H') :
  wp (zbg zby (zt1 G1 zii ze2 zij zvy zvz) [ptr b 0,v,i64 ul.length,i64 0]) Q H:=by
 refine zb2 ul.length (by omega) (fun j vs H'=>∃ bf',vs=[ptr b 0,v,i64 ul.length,i64 j]∧Hp H0 H' (wrt b bf' (l ++ ((ul.take j).map Us.p).flatMap zrn) :: L)) ⟨bf,rfl,by simpa using h⟩ ?_
 rintro j vs H1 hj ⟨bf1,rfl,s1⟩
 by_cases hlt:j < ul.length
 case neg =>
  have:j=ul.length:=by omega
  subst this
  rw[List.take_length] at s1
  (try simp(maxSteps:=1000000)(disch:=first|omega|(simp only[Z3];omega)|(simp;done)|assumption|decide|(apply not_not_intro;assumption))only[ZB,zt1])
  exact hQ bf1 H1 s1
 have hp:=s1.ro hv.out
 have b1:=hp.addr' (n:=3) rfl (k := .i64) (i:=j) (by omega) (by omega)
 rw[Int.toNat_natCast] at b1
 have d1:=fun Q=>hp.ldn' (Q:=Q) (n:=3) rfl hlt default
 have hok:=ok _ (zb4 (d:=default) hlt)
 have hacc:(((ul.take j).map Us.p).flatMap zrn).length≤63000000000 * ((ul.take j).map Us.p).length:=zdj fun p hp=>by
  obtain⟨u,hu,rfl⟩:=List.mem_map.1 hp
  have hm:=List.mem_of_mem_take hu
  exact zbk9 (ok u hm) (hv.inn u hm).2
 have htl:((ul.take j).map Us.p).length=j:=by rw[List.length_map,List.length_take];omega
 rw[htl] at hacc
 have hat:=hv.at hlt
 rw[zjr (d:=default) hlt]
 simp only[List.map_append,List.map_cons,List.map_nil,List.flatMap_append,List.flatMap_cons,List.flatMap_nil,List.append_nil]
 generalize ul.getD j default=u at *
 obtain⟨k1,k2,k3⟩:=hok
 have hone:=z29 u
 have k1':u.name.size≠0∧u.name.size≤24:=k1
 have k2':16≤u.key.size∧u.key.size≤64:=k2
 (try simp(maxSteps:=1000000)(disch:=first|omega|(simp only[Z3];omega)|(simp;done)|assumption|decide|(apply not_not_intro;assumption))only[ZA,zp,zo,zm,zk,zj,zi,zh,ze,zt1,z8p,b1,d1,zxv])
 have s2:Hp H0 (H1.push (some (.cells true [.string u.name,.string u.key,u.rs.v]))) (wrt b bf1 (l ++ ((ul.take j).map Us.p).flatMap zrn) :: cel H1.next [.string u.name,.string u.key,u.rs.v] :: L):=zt3 (s1.newc _)
 generalize hH2:H1.push (some (.cells true [.string u.name,.string u.key,u.rs.v]))=H2 at *
 generalize H1.next=X at *
 have gX:=s2.get (i:=1) rfl
 (try simp(maxSteps:=1000000)(disch:=first|omega|(simp only[Z3];omega)|(simp;done)|assumption|decide|(apply not_not_intro;assumption))only[ZB,gX])
 refine zbng H2 u.key (by omega) _ fun H3 k23=>?_
 have s3:=s2.keep0 k23
 have gX3:=s3.get (i:=1) rfl
 (try simp(maxSteps:=1000000)(disch:=first|omega|(simp only[Z3];omega)|(simp;done)|assumption|decide|(apply not_not_intro;assumption))only[ZB])
 refine (zfq (cs:=zbp [Wd.s u.name,Wd.s (zy3 u.key)]) (by decide) (by rfl)).mpr ?_
 (try simp(maxSteps:=1000000)(disch:=first|omega|(simp only[Z3];omega)|(simp;done)|assumption|decide|(apply not_not_intro;assumption))only[ZB])
 have lu:(zgl z03 [.s u.name,.s (zy3 u.key)]).length≤60000:=zdt (by decide) (fun d hd=>by
  simp only[List.mem_cons,List.not_mem_nil,or_false] at hd
  rcases hd with rfl | rfl
  ·exact⟨k1'.1,by omega⟩
  ·exact zbir k2) (by simp)
 refine zml [.s u.name,.s (zy3 u.key)] hP s3 (by decide) (fun d hd=>by
  simp only[List.mem_cons,List.not_mem_nil,or_false] at hd
  rcases hd with rfl | rfl
  ·exact⟨k1'.1,by omega⟩
  ·exact zbir k2) (by simp) rfl (by simp only[List.length_append];omega) _ fun bf' H4 s4=>?_
 have gX4:=s4.get (i:=1) rfl
 have lr:=hat.1.len
 (try simp(maxSteps:=1000000)(disch:=first|omega|(simp only[Z3];omega)|(simp;done)|assumption|decide|(apply not_not_intro;assumption))only[ZB,gX3,gX4,lr])
 refine zbtp (G4:=G1) hP hT hat.1 k3 hat.2 (by simp only[List.length_append];have:(zgl ⟨#[117,115,101,114]⟩ [.s u.name,.s (zy3 u.key)]).length≤60000:=lu;omega) s4 _ fun bf5 H5 s5=>?_
 (try simp(maxSteps:=1000000)(disch:=first|omega|(simp only[Z3];omega)|(simp;done)|assumption|decide|(apply not_not_intro;assumption))only[ZB,z8o])
 exact⟨hlt,bf5,rfl,by
  have s6:=zsw s5
  simp only[List.append_assoc] at s6
  simp only[zrn,List.append_assoc]
  exact s6⟩
theorem zby8 {i b:Nat} {bf:Option Nat} {l:List UInt8} {Q:V→Heap→Prop} (h:Hp H0 H L) (hi:L[i]? = some (wrt b bf l)) (hl:l≠[]) (hQ:Q (i64 l.length) H):wp (zvy [ptr b 0]) Q H:=by
 obtain⟨⟨u,hu⟩,q⟩:=h.at hi
 cases bf with
 | none=>exact absurd q hl
 | some g =>
  obtain⟨q1,q2⟩:H.get g=some (.buf 5 l)∧l≠[]:=q
  refine⟨_,_,?_,hQ⟩
  show zvy [.pointer (some ⟨b,0,none⟩)] H=_
  unfold zvy
  simp only[hu,q1]
  rfl
theorem zby9 {i b:Nat} {bf:Option Nat} {l:List UInt8} {Q:V→Heap→Prop} (h:Hp H0 H L) (hi:L[i]? = some (wrt b bf l)) (hl:l≠[]) (hb:l.length≤10000000000000) (hQ:∀ H',Keeps [] H0 H'→Q (.string ⟨l.toArray⟩) H'):wp (zvz [ptr b 0]) Q H:=by
 obtain⟨⟨u,hu⟩,q⟩:=h.at hi
 have hnew:=h.newAt hi
 cases bf with
 | none=>exact absurd q hl
 | some g =>
  obtain⟨q1,q2⟩:H.get g=some (.buf 5 l)∧l≠[]:=q
  have hg:=hnew g (by simp[wrt])
  refine⟨_,H.set g none,?_,hQ _ (h.keeps.trans (Keeps.set (S:=[g]) (by simp)) (fun c hc hm=>by simp at hm;omega))⟩
  show zvz [.pointer (some ⟨b,0,none⟩)] H=_
  unfold zvz
  simp only[hu,q1]
  exact if_pos ⟨trivial,trivial,trivial,q2,hb⟩
structure SeOk (s:Se3):Prop where
 sy:ShOk s.sy
 us:∀ u∈s.us,UsOk u
 un:s.us.length≤8
 millis:zer s.sy.millis
 frame:zer s.sy.frame
 idle:zer s.idle
theorem zbes {k:ByteArray} {n:Int} (hk:k.size≤10000) (h:zer n):(zgl k [.n n]).length≤60000:=zdt hk (fun d hd=>by
 simp only[List.mem_cons,List.not_mem_nil,or_false] at hd
 subst hd
 exact h) (by simp)
theorem zbwi {G:List V→M V} {x:SyV} {v:V} {l:List Us} {s:Se3} (hP:zj4 H) (hT:Tabs H) (hs:SysAt H x s.sy) (hu:Users H v l) (hp:l.map Us.p=s.us) (ok:zou s.sy s.us s.idle=0→SeOk s) (Q:V→Heap→Prop)
  (hQ:∀ H',Keeps [] H H'→Q (.tuple #[.string (z3j s).1,i64 (z3j s).2]) H'):wp (zom G zii ze2 zij zvy zvz [.agg (x.cs s.sy ++ [v,i64 s.idle]).toArray]) Q H:=by
 show wp (z26 G zii ze2 zij zvy zvz (.agg (x.cs s.sy ++ [v,i64 s.idle]).toArray)) Q H
 have ho:(x.cs s.sy ++ [v,i64 s.idle]).all Value.isOne=true:=by rw[List.all_append,hs.one];simp[hu.out.isOne]
 have s1:Hp H (H.push (some (.cells true (x.cs s.sy ++ [v,i64 s.idle])))) [cel H.next (x.cs s.sy ++ [v,i64 s.idle])]:=(Hp.start H).newc _
 unfold z26
 rw[z6,z6]
 refine (zcg ho).mpr ?_
 have c3:(x.cs s.sy ++ [v,i64 s.idle])[3]? = some (i64 s.sy.frame):=rfl
 have c6:(x.cs s.sy ++ [v,i64 s.idle])[6]? = some (i64 s.sy.millis):=rfl
 have c7:(x.cs s.sy ++ [v,i64 s.idle])[7]? = some v:=rfl
 have c8:(x.cs s.sy ++ [v,i64 s.idle])[8]? = some (i64 s.idle):=rfl
 have d7:∀ {K:Heap} (P:Nat),K.get P=some (.cells true (x.cs s.sy ++ [v,i64 s.idle]))→∀ Q,wp (ldn 7 (ptr P 0)) Q K↔Q (.agg (x.cs s.sy).toArray) K:=fun P hg Q=>by
  rw[zca,hg,zsi (by show 0 + 7≤9;omega)]
  rfl
 generalize x.cs s.sy ++ [v,i64 s.idle]=cs at *
 generalize H.push (some (.cells true cs))=H1 at *
 generalize H.next=P at *
 have g1:=s1.get (i:=0) rfl
 have e1:=d7 P g1
 (try simp(maxSteps:=1000000)(disch:=first|omega|(simp only[Z3];omega)|(simp;done)|assumption|decide|(apply not_not_intro;assumption))only[ZA,zp,zo,zm,zk,zj,zi,zh,ze,e1,g1,c7,c8])
 refine zbd5 (hs.keep0 s1.keeps) (hu.keep0 s1.keeps) hp s.idle _ fun a H2 k2=>?_
 have s2:=s1.keep0 k2
 unfold z3j at hQ
 by_cases hn:zou s.sy s.us s.idle=0
 case neg =>
  rw[if_pos hn] at hQ
  have e2:decide (zou s.sy s.us s.idle≠0)=true:=decide_eq_true hn
  (try simp(maxSteps:=1000000)(disch:=first|omega|(simp only[Z3];omega)|(simp;done)|assumption|decide|(apply not_not_intro;assumption))only[ZB,e2])
  exact hQ _ s2.keeps
 rw[if_neg (fun q=>q hn)] at hQ
 obtain⟨oks,oku,okn,okm,okf,oki⟩:=ok hn
 have e2:decide (zou s.sy s.us s.idle≠0)=false:=decide_eq_false (fun q=>q hn)
 have eb:build [(Value.pointer none:V),Value.slice none 0 0] []=some (.agg [.pointer none,.slice none 0 0].toArray):=rfl
 have wB:∀ Q,wp (bldM z0s (.agg [.pointer none,.slice none 0 0].toArray)) Q H2↔Q (ptr H2.next 0) (H2.push (some (.bld 74 false none 0))):=fun Q=>zbwc _
 have s3:=zbwd s2
 have g3:=s3.get (i:=1) rfl
 have n1:=zbes (k:=zdv) (by decide) okm
 have n2:=zbes (k:=zgd) (by decide) okf
 have n3:=zbes (k:=zno) (by decide) oki
 (try simp(maxSteps:=1000000)(disch:=first|omega|(simp only[Z3];omega)|(simp;done)|assumption|decide|(apply not_not_intro;assumption))only[ZA,zp,zo,zk,zj,zi,zh,ze,e2,z8s,eb,wB])
 generalize H2.push (some (.bld 74 false none 0))=H3 at *
 generalize H2.next=b at *
 (try simp(maxSteps:=1000000)(disch:=first|omega|(simp only[Z3];omega)|(simp;done)|assumption|decide|(apply not_not_intro;assumption))only[ZA,zp,zo,zm,zk,zj,zi,zh,ze,g3,c6])
 refine (zfq (cs:=zbp [Wd.n s.sy.millis]) (by decide) (by rfl)).mpr ?_
 (try simp(maxSteps:=1000000)(disch:=first|omega|(simp only[Z3];omega)|(simp;done)|assumption|decide|(apply not_not_intro;assumption))only[ZA,zp,zo,zm,zk,zj,zi,zh,ze])
 refine zml [.n s.sy.millis] hP s3 (by decide) (fun d hd=>by
  simp only[List.mem_cons,List.not_mem_nil,or_false] at hd
  subst hd
  exact okm) (by simp) rfl (by simp) _ fun bf4 H4 s4=>?_
 have g4:=s4.get (i:=1) rfl
 (try simp(maxSteps:=1000000)(disch:=first|omega|(simp only[Z3];omega)|(simp;done)|assumption|decide|(apply not_not_intro;assumption))only[ZA,zp,zo,zm,zk,zj,zi,zh,ze,g4,c3])
 refine (zfq (cs:=zbp [Wd.n s.sy.frame]) (by decide) (by rfl)).mpr ?_
 (try simp(maxSteps:=1000000)(disch:=first|omega|(simp only[Z3];omega)|(simp;done)|assumption|decide|(apply not_not_intro;assumption))only[ZA,zp,zo,zm,zk,zj,zi,zh,ze])
 refine zml [.n s.sy.frame] hP s4 (by decide) (fun d hd=>by
  simp only[List.mem_cons,List.not_mem_nil,or_false] at hd
  subst hd
  exact okf) (by simp) rfl (by
   have:(zgl ⟨#[109,105,108,108,105,115]⟩ [.n s.sy.millis]).length≤60000:=n1
   simp only[List.length_append,List.length_nil];omega) _ fun bf5 H5 s5=>?_
 have g5:=s5.get (i:=1) rfl
 (try simp(maxSteps:=1000000)(disch:=first|omega|(simp only[Z3];omega)|(simp;done)|assumption|decide|(apply not_not_intro;assumption))only[ZA,zp,zo,zm,zk,zj,zi,zh,ze,g5,c8])
 refine (zfq (cs:=zbp [Wd.n s.idle]) (by decide) (by rfl)).mpr ?_
 (try simp(maxSteps:=1000000)(disch:=first|omega|(simp only[Z3];omega)|(simp;done)|assumption|decide|(apply not_not_intro;assumption))only[ZA,zp,zo,zm,zk,zj,zi,zh,ze])
 refine zml [.n s.idle] hP s5 (by decide) (fun d hd=>by
  simp only[List.mem_cons,List.not_mem_nil,or_false] at hd
  subst hd
  exact oki) (by simp) rfl (by
   have:(zgl ⟨#[109,105,108,108,105,115]⟩ [.n s.sy.millis]).length≤60000:=n1
   have:(zgl ⟨#[102,114,97,109,101]⟩ [.n s.sy.frame]).length≤60000:=n2
   simp only[List.length_append,List.length_nil];omega) _ fun bf6 H6 s6=>?_
 have s6':Hp H H6 (wrt b bf6 (zbeq s) :: [cel P cs]):=s6
 clear s6
 have hhl:(zbeq s).length≤180000:=by simp only[zbeq,List.length_append];omega
 have hhn:zbeq s≠[]:=by simp[zbeq,zgl]
 have g6:=s6'.get (i:=1) rfl
 have e6:=d7 P g6
 (try simp(maxSteps:=1000000)(disch:=first|omega|(simp only[Z3];omega)|(simp;done)|assumption|decide|(apply not_not_intro;assumption))only[ZA,zp,zo,zm,zk,zj,zi,zh,ze,e6])
 refine zbqk hP hT hs oks (by omega) s6' _ fun bf7 H7 s7=>?_
 have g7:=s7.get (i:=1) rfl
 have hvl:=hu.out.len
 have hsl:=zbiq oks
 (try simp(maxSteps:=1000000)(disch:=first|omega|(simp only[Z3];omega)|(simp;done)|assumption|decide|(apply not_not_intro;assumption))only[ZB,g7,c7,hvl])
 refine zbtq hP hT hu (fun u hm=>oku _ (by rw[← hp];exact List.mem_map_of_mem hm)) (by rw[← hp,List.length_map] at okn;exact okn) (by simp only[List.length_append];omega) s7 _ fun bf8 H8 s8=>?_
 rw[hp] at s8
 have s8':Hp H H8 (wrt b bf8 (zwv s) :: [cel P cs]):=s8
 clear s8
 have hne:zwv s≠[]:=by simp only[zwv,ne_eq,List.append_eq_nil_iff,not_and];intro q;exact absurd q.1 hhn
 (try simp(maxSteps:=1000000)(disch:=first|omega|(simp only[Z3];omega)|(simp;done)|assumption|decide|(apply not_not_intro;assumption))only[ZB,z8r])
 refine zby8 s8' (i:=0) rfl hne ?_
 by_cases hlen:(zwv s).length > 65536
 ·rw[if_pos hlen] at hQ
  have e8:decide (((zwv s).length:Int) > 65536)=true:=decide_eq_true (by omega)
  (try simp(maxSteps:=1000000)(disch:=first|omega|(simp only[Z3];omega)|(simp;done)|assumption|decide|(apply not_not_intro;assumption))only[ZB,e8])
  exact hQ _ s8'.keeps
 rw[if_neg hlen] at hQ
 have e8:decide (((zwv s).length:Int) > 65536)=false:=decide_eq_false (by omega)
 (try simp(maxSteps:=1000000)(disch:=first|omega|(simp only[Z3];omega)|(simp;done)|assumption|decide|(apply not_not_intro;assumption))only[ZB,e8,z8q])
 refine zby9 s8' (i:=0) rfl hne (by omega) fun H9 k9=>?_
 (try simp(maxSteps:=1000000)(disch:=first|omega|(simp only[Z3];omega)|(simp;done)|assumption|decide|(apply not_not_intro;assumption))only[ZB])
 exact hQ _ k9
end Go.AM.Cap
