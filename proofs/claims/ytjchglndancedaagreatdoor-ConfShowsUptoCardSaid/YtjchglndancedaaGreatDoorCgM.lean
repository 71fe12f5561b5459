import Derived.Test.YtjchglndancedaaGreatDoorCfBs
import Derived.Test.YtjchglndancedaaGreatDoorCfZ
import Derived.Test.YtjchglndancedaaGreatDoorAmIn
set_option linter.all false
/- conf: plain: what is so of a setup that may be; how many lines are shown -/
set_option maxHeartbeats 4000000
namespace Go.AM.Cap
open Go.AM Go.Proofs
theorem zbv2:∀ {ws:List Win} {frame n e:Int},zke frame n e ws=false→0≤e→∀ w∈ws,-1≤w.part∧w.part < n∧1≤w.len∧0≤w.start∧w.start≤frame∧w.len≤frame - w.start
 | [],_,_,_,_,_,w,hw=>by cases hw
 | x :: ws,frame,n,e,h,he,w,hw=>by
  rw[zke] at h
  by_cases hb:zxp frame n e x
  ·rw[if_pos hb] at h;cases h
  rw[if_neg hb] at h
  have hb':=hb
  unfold zxp at hb'
  rcases List.mem_cons.1 hw with rfl | hw
  ·omega
  ·exact zbv2 h (by omega) w hw
theorem zbpb {frame n:Int} {ws:List Win} (h:zsn frame ws n=0):1≤n∧n≤8∧1≤frame∧frame≤65536∧ws.length≤32∧∀ w∈ws,-1≤w.part∧w.part < n∧1≤w.len∧0≤w.start∧w.start≤frame∧w.len≤frame - w.start:=by
 unfold zsn at h
 by_cases c1:n < 1∨n > 8
 ·rw[if_pos c1] at h;cases h
 rw[if_neg c1] at h
 by_cases c2:frame < 1∨frame > 65536∨ws.length < 1∨ws.length > 32
 ·rw[if_pos c2] at h;cases h
 rw[if_neg c2] at h
 by_cases c3:zke frame n 0 ws=true
 ·rw[if_pos c3] at h;cases h
 exact⟨by omega,by omega,by omega,by omega,by omega,zbv2 (by simpa using c3) (by omega)⟩
theorem zb03 {q:Port} (h:zlf q=0):(q.kind=1∨q.kind=2)∧(0≤q.src∧q.src < 8)∧(0≤q.dst∧q.dst < 8)∧(1≤q.typ∧q.typ≤3)∧(q.kind=1→q.cap=0)∧0≤q.cap∧q.cap≤16:=by
 unfold zlf at h
 by_cases c1:q.kind≠1∧q.kind≠2
 ·rw[if_pos c1] at h;omega
 rw[if_neg c1] at h
 by_cases c2:¬ (0≤q.src∧q.src < 8)∨¬ (0≤q.dst∧q.dst < 8)
 ·rw[if_pos c2] at h;omega
 rw[if_neg c2] at h
 by_cases c3:q.src=q.dst
 ·rw[if_pos c3] at h;omega
 rw[if_neg c3] at h
 by_cases c4:q.typ < 1∨q.typ > 3
 ·rw[if_pos c4] at h;omega
 rw[if_neg c4] at h
 by_cases c5:q.kind=1∧q.cap≠0∨q.kind=2∧(q.cap < 1∨q.cap > 16)
 ·rw[if_pos c5] at h;omega
 omega
theorem zbsq:∀ {l ah:List Us} {parts:Int},(zen parts ah l).2=0→∀ u∈l,ze3 u=true∧zok u.rs.xs parts=0
 | [],_,_,_,u,hu=>by cases hu
 | x :: l,ah,parts,h,u,hu=>by
  rw[zen] at h
  by_cases c1:ze3 x=true
  case neg=>rw[if_neg c1] at h;cases h
  rw[if_pos c1] at h
  by_cases c2:(zyt ah x.name).isSome=true
  ·rw[if_pos c2] at h;cases h
  rw[if_neg c2] at h
  by_cases c3:zok x.rs.xs parts=0
  case neg=>rw[if_neg c3] at h;exact absurd h c3
  rw[if_pos c3] at h
  rcases List.mem_cons.1 hu with rfl | hu
  ·exact⟨c1,c3⟩
  ·exact zbsq h u hu
theorem zb04 {us:List PUs} {parts:Int} (h:(zbgn us parts).2=0):us.length≤8∧∀ u∈us,zm2 u.name=true∧UsOk u∧∀ r∈u.rs,0≤r.part∧r.part < parts:=by
 unfold zbgn zik at h
 by_cases c1:parts < 1∨parts > 8
 ·rw[if_pos c1] at h;cases h
 rw[if_neg c1,List.length_map] at h
 by_cases c2:us.length > 8
 ·rw[if_pos c2] at h;cases h
 rw[if_neg c2] at h
 refine⟨by omega,fun u hu=>?_⟩
 obtain⟨q1,q2⟩:=zbsq h u.u (List.mem_map_of_mem hu)
 have q2':zok u.rs parts=0:=q2
 unfold zok at q2'
 by_cases c3:u.rs.any (zvn parts)=true
 ·rw[if_pos c3] at q2';cases q2'
 have hr:∀ r∈u.rs,¬ (r.part < 0∨r.part≥parts∨r.level < 1∨r.level > 4):=fun r hr hb=>c3 (List.any_eq_true.2 ⟨r,hr,decide_eq_true hb⟩)
 unfold ze3 at q1
 simp only[Bool.and_eq_true,decide_eq_true_eq] at q1
 obtain⟨q3,q4⟩:=q1
 have q3':zm2 u.name=true:=q3
 have q3'':=q3'
 unfold zm2 at q3''
 simp only[Bool.and_eq_true,decide_eq_true_eq] at q3''
 refine⟨q3',⟨⟨fun e=>q3''.1.1 ?_,q3''.1.2⟩,q4,fun r hm=>?_⟩,fun r hm=>?_⟩
 ·have hz:u.name.data.toList.length=0:=by rw[zbec];exact e
  have:u.name.data=#[]:=by
   have:=List.eq_nil_of_length_eq_zero hz
   simpa using this
  cases hu':u.name with | mk d=>rw[hu'] at this;simp only at this;rw[this]
 ·have:=hr r hm
  exact⟨⟨by omega,by omega⟩,by omega,by omega⟩
 ·have:=hr r hm
  omega
theorem zbv3 {s:Sy} {us:List PUs} {idle:Int} (h:zvo s us idle=0):SyOk s∧(zbgn us s.uns.length).2=0∧1≤idle∧idle≤100000:=by
 unfold zvo at h
 by_cases c1:exE s≠0
 ·rw[if_pos c1] at h;exact absurd h c1
 rw[if_neg c1] at h
 by_cases c2:(zbgn us s.uns.length).2≠0
 ·rw[if_pos c2] at h;exact absurd h c2
 rw[if_neg c2] at h
 by_cases c3:idle < 1∨idle > 100000
 ·rw[if_pos c3] at h;cases h
 exact⟨zbo0 (Decidable.not_not.1 c1),Decidable.not_not.1 c2,by omega,by omega⟩
theorem zb4l {s:Sy} (h:SyOk s):∀ u∈s.uns,UnOk u∧(∀ b∈u.ins,inB s b)∧∀ b∈u.outs,inB s b:=fun u hu=>by
 obtain⟨i,hi,he⟩:=List.mem_iff_getElem.1 hu
 have hb:=h.units i hi
 rw[List.getD_eq_getElem?_getD,List.getElem?_eq_getElem hi] at hb
 simp only[Option.getD_some,he] at hb
 obtain⟨l1,m1⟩:=zs4 hb.1
 obtain⟨l2,m2⟩:=zs4 hb.2
 have i1:∀ b∈u.ins,inB s b:=fun b hb=>z02 h.grs (m1 b hb)
 have i2:∀ b∈u.outs,inB s b:=fun b hb=>z02 h.grs (m2 b hb)
 have hp:=(zqc h.chkB).1
 have hq:=(z01 h.chkP).1
 have key:∀ b,inB s b→zd5 b.n:=fun b hb=>by
  rcases hb with⟨_,q2,q3⟩ | ⟨_,q2,q3⟩ <;> exact⟨by omega,by omega⟩
 exact⟨⟨l1,l2,fun b hb=>key b (i1 b hb),fun b hb=>key b (i2 b hb)⟩,i1,i2⟩
theorem zb3w {s:Sy} (h:SyOk s) (hg:s.grs.length≤1000):ShOk s:=by
 obtain⟨p1,p2,p3,p4,p5,p6⟩:=zbpb h.plan
 obtain⟨b1,b2,b3⟩:=zqc h.chkB
 obtain⟨q1,q2⟩:=z01 h.chkP
 refine⟨b1,fun p hp=>?_,hg,fun g hg=>?_,by omega,fun q hq=>?_,by omega,fun w hw=>?_,by omega,fun u hu=>(zb4l h u hu).1⟩
 ·have:=b2 p hp
  unfold z33 at this
  omega
 ·have:=b3 g hg
  exact⟨⟨by omega,by omega⟩,⟨by omega,by omega⟩⟩
 ·have:=zb03 (q2 q hq)
  exact⟨⟨by omega,by omega⟩,⟨by omega,by omega⟩,⟨by omega,by omega⟩,by omega,by omega⟩
 ·have:=p6 w hw
  exact⟨⟨by omega,by omega⟩,⟨by omega,by omega⟩,⟨by omega,by omega⟩⟩
theorem zbv4 {s:Se3} (h:zvo s.sy s.us s.idle=0) (hg:s.sy.grs.length≤1000):SeOk s:=by
 obtain⟨h1,h2,h3,h4⟩:=zbv3 h
 obtain⟨u1,u2⟩:=zb04 h2
 obtain⟨p1,p2,p3,p4,_⟩:=zbpb h1.plan
 have:=h1.millis
 exact⟨zb3w h1 hg,fun u hu=>(u2 u hu).2.1,u1,⟨by omega,by omega⟩,⟨by omega,by omega⟩,⟨by omega,by omega⟩⟩
end Go.AM.Cap

/- conf: ConfLines, the walk -/
set_option maxHeartbeats 16000000
namespace Go.AM.Cap
open Go.AM Go.Proofs
variable {H:Heap}
theorem zb4m (l:List UInt8):bv ⟨l.toArray⟩=l.map UInt8.toBitVec:=by simp[bv]
theorem zbv5 (l:List UInt8):(⟨l.toArray⟩:ByteArray).size=l.length:=by rw[← zbec]
end Go.AM.Cap

/- conf: plain: what is shown is read as just this -/
set_option maxHeartbeats 4000000
namespace Go.AM.Cap
open Go.AM Go.Proofs
def z7m:Wd→ByteArray
 | .n i=>⟨(Lib.itoa i).toArray⟩
 | .s x=>x
theorem zbsr (d:Wd):bv (z7m d)=(zbgv d).map UInt8.toBitVec:=by
 cases d with
 | n i=>exact zb4m _
 | s x=>rfl
def zh5 (i:Int):Prop:=0≤i∧i≤1000000000
def jn:List ByteArray→List (BitVec 8)
 | []=>[]
 | [w]=>bv w
 | w :: v :: ws=>bv w ++ 32#8 :: jn (v :: ws)
def Rd (st:RSt) (ls:List ByteArray) (st':RSt):Prop:=(∀ rest i,∃ i',zyv st i (ls ++ rest)=zyv st' i' rest)∧∀ l∈ls,noNl l
theorem Rd.nil (st:RSt):Rd st [] st:=⟨fun _ i=>⟨i,rfl⟩,fun l hl=>by cases hl⟩
theorem Rd.one {st st':RSt} {l:ByteArray} (h:z3t st l = .ok st') (hn:noNl l):Rd st [l] st':=⟨fun rest i=>⟨i + 1,by rw[List.cons_append,List.nil_append,zyv,h]⟩,fun m hm=>by
 simp only[List.mem_cons,List.not_mem_nil,or_false] at hm
 subst hm;exact hn⟩
theorem Rd.done {st:RSt} {ls:List ByteArray} (h:Rd z03 ls st):zyv z03 0 ls = .ok st:=by
 obtain⟨i,hi⟩:=h.1 [] 0
 rw[List.append_nil] at hi
 rw[hi,zyv]
def O3:List ByteArray:=[zhz,zkf,zso]
def ln (k:ByteArray) (ds:List Wd):ByteArray:=sv (jn (k :: ds.map z7m))
end Go.AM.Cap

/- conf: plain: there and back -/
set_option maxHeartbeats 4000000
namespace Go.AM.Cap
open Go.AM Go.Proofs
def st1 (m f i:Int):RSt:=⟨⟨[],[],[],f,[],[],m⟩,[],i,O3⟩
def tb (l:List UInt8):List (BitVec 8):=l.map UInt8.toBitVec
theorem zbss:∀ (ds:List Wd) (k:ByteArray),jn (k :: ds.map z7m)=bv k ++ tb (zuk ds)
 | [],k=>by simp[jn,zuk,tb]
 | d :: ds,k=>by
  rw[List.map_cons,jn,zbss ds (z7m d),zbsr]
  unfold tb
  simp[zuk]
end Go.AM.Cap

/- conf, the document: lines, words, numbers, places -/
set_option maxHeartbeats 16000000
namespace Go.AM.Cap
open Go.AM Go.Proofs
variable {H0 H:Heap}
theorem bv_extract (s:ByteArray) (a b:Nat):bv (s.extract a b)=((bv s).drop a).take (b - a):=by
 unfold bv
 rw[ByteArray.data_extract,Array.toList_extract,List.extract_eq_take_drop,List.map_take,List.map_drop]
end Go.AM.Cap

/- conf, the document: numbers, places of words -/
set_option maxHeartbeats 16000000
namespace Go.AM.Cap
open Go.AM Go.Proofs
variable {H0 H:Heap}
end Go.AM.Cap

/- conf, the document: where a word stands; lines of points -/
set_option maxHeartbeats 16000000
namespace Go.AM.Cap
open Go.AM Go.Proofs
variable {H0 H:Heap} {R:Nat} {v:RV} {st:RSt} {L:List Thing}
def zbkd:List ByteArray:=[zol,zbgq,kInt,zbgr]
def zbef:List ByteArray:=[zol,zbgs,kRun,z7f,z7g]
theorem zbke (Q:V→Heap→Prop) (hQ:∀ w H',Keeps [] H H'→Sl H' w zbkd→Q w H'):wp (zk4 []) Q H:=by
 show wp zz1 Q H
 have hp:=(Hp.start H).newo (α:=ByteArray) (n:=1) (m:=4) zbkd rfl rfl
 unfold zz1
 rw[z7,z7]
 refine (zdf (cs:=zbj zbkd) (by decide) (by rfl)).mpr ?_
 (try simp (maxSteps:=999999) (disch:=try exact ZD) only[ZA,zbz,zo,zn,zm,zk,zi,zj,ze])
 exact hQ _ _ (Keeps.push _ _ _) (hp.own (i:=0) rfl).sl
theorem zbx6 (Q:V→Heap→Prop) (hQ:∀ w H',Keeps [] H H'→Sl H' w zbef→Q w H'):wp (zr0 []) Q H:=by
 show wp zxk Q H
 have hp:=(Hp.start H).newo (α:=ByteArray) (n:=1) (m:=5) zbef rfl rfl
 unfold zxk
 rw[z7,z7]
 refine (zdf (cs:=zbj zbef) (by decide) (by rfl)).mpr ?_
 (try simp (maxSteps:=999999) (disch:=try exact ZD) only[ZA,zbz,zo,zn,zm,zk,zi,zj,ze])
 exact hQ _ _ (Keeps.push _ _ _) (hp.own (i:=0) rfl).sl
end Go.AM.Cap

/- conf, the document: lines of windows (printed by gencg.py) -/
set_option maxHeartbeats 16000000
namespace Go.AM.Cap
open Go.AM Go.Proofs
variable {H0 H:Heap} {R:Nat} {v:RV} {st:RSt} {L:List Thing}
end Go.AM.Cap

/- conf, the document: lines that are said once -/
set_option maxHeartbeats 16000000
namespace Go.AM.Cap
open Go.AM Go.Proofs
variable {H0 H:Heap} {R:Nat} {v:RV} {st:RSt} {L:List Thing}
end Go.AM.Cap

/- conf, the document: lines of ports -/
set_option maxHeartbeats 16000000
namespace Go.AM.Cap
open Go.AM Go.Proofs
variable {H0 H:Heap} {R:Nat} {v:RV} {st:RSt} {L:List Thing}
end Go.AM.Cap

/- conf, the document: lines of binds (printed by gencg2.py) -/
set_option maxHeartbeats 16000000
namespace Go.AM.Cap
open Go.AM Go.Proofs
variable {H0 H:Heap} {R:Nat} {v:RV} {st:RSt} {L:List Thing}
end Go.AM.Cap

/- conf, the document: bytes of zuj -/
set_option maxHeartbeats 16000000
namespace Go.AM.Cap
open Go.AM Go.Proofs
variable {H0 H:Heap}
def hx (b:BitVec 8):Nat→Int
 | 0=>-1
 | k + 1=>if (bv zyu).getD k 0=b then (k:Int) else hx b k
end Go.AM.Cap

/- conf, the document: lines of users and of roles -/
set_option maxHeartbeats 16000000
namespace Go.AM.Cap
open Go.AM Go.Proofs
variable {H0 H:Heap} {R:Nat} {v:RV} {st:RSt} {L:List Thing}
end Go.AM.Cap

/- conf, the document: a line (printed by gencg3.py) -/
set_option maxHeartbeats 32000000
namespace Go.AM.Cap
open Go.AM Go.Proofs
variable {H0 H:Heap} {R:Nat} {v:RV} {st:RSt} {L:List Thing}
end Go.AM.Cap

/- conf, the document: lines, one behind the other -/
set_option maxHeartbeats 16000000
namespace Go.AM.Cap
open Go.AM Go.Proofs
variable {H0 H:Heap} {R:Nat} {v:RV} {st:RSt} {L:List Thing}
end Go.AM.Cap

/- conf, the document: the windows of a partition -/
set_option maxHeartbeats 16000000
namespace Go.AM.Cap
open Go.AM Go.Proofs
variable {H0 H:Heap}
theorem zbst (ws:List Win) (p:Int):(ws.filter fun w=>decide (w.part=p)).length=zh4 ws p:=by
 rw[zh4,List.countP_eq_length_filter]
theorem zb7v {wv:V} {ws:List Win} (frame:Int) (h:Sl H wv ws) (hl:ws.length≤1048576) (p:Int) (Q:V→Heap→Prop) (hQ:∀ w H',Keeps [] H H'→zw w=some (i64 (zh4 ws p))→Q w H'):wp (z18 [.agg [i64 frame,wv].toArray,i64 p]) Q H:=by
 show wp (zbbk (.agg [i64 frame,wv].toArray) (i64 p)) Q H
 have ho:([i64 frame,wv]:List V).all Value.isOne=true:=by simp[h.isOne]
 have s1:Hp H (H.push (some (.cells true [i64 frame,wv]))) [cel H.next [i64 frame,wv]]:=(Hp.start H).newc _
 unfold zbbk
 rw[z7,z7]
 refine (zb0 ho).mpr ?_
 generalize H.next=P at *
 generalize H.push (some (.cells true [i64 frame,wv]))=H1 at *
 (try simp (maxSteps:=999999) (disch:=try exact ZD) only[ZB])
 refine zbo ws.length (by omega) (fun j vs H'=>∃ w,vs=[i64 p,ptr P 0,w,i64 j]∧Hp H H' [own w ((ws.take j).filter fun w=>decide (w.part=p)),cel P [i64 frame,wv]]) ⟨.slice none 0 0,rfl,s1.nilo (α:=Win)⟩ ?_
 rintro j vs H2 hj ⟨w,rfl,s2⟩
 have g2:=s2.get (i:=1) rfl
 have h2:=h.keep0 s2.keeps
 have hlen:=h2.len
 have hfl:((ws.take j).filter fun w=>decide (w.part=p)).length≤j:=Nat.le_trans (List.length_filter_le _ _) (by rw[List.length_take];omega)
 by_cases hlt:j < ws.length
 case neg =>
  have:j=ws.length:=by omega
  subst this
  rw[List.take_length] at s2
  have ol:=(s2.own (i:=0) rfl).len
  rw[zbst] at ol
  (try simp (maxSteps:=999999) (disch:=try exact ZD) only[ZB,zyj,zbgk,g2,hlen])
  exact hQ _ _ s2.keeps ol
 have a1:=h2.addr' (n:=3) rfl (k := .i64) (i:=(j:Int)) (by omega) (by omega)
 rw[Int.toNat_natCast] at a1
 have c0:=h2.cell' (n:=3) rfl (off:=0) hlt (by omega) default
 rw[zbd,Nat.add_zero] at c0
 have e0:(Flat.enc (ws.getD j default))[0]? = some (i64 (ws.getD j default).part):=rfl
 rw[e0] at c0
 have d1:=fun Q=>h2.ldn' (Q:=Q) (n:=3) rfl hlt default
 have htk:ws.take (j + 1)=ws.take j ++ [ws.getD j default]:=by
  rw[List.getD_eq_getElem?_getD,List.getElem?_eq_getElem hlt];exact List.take_succ_eq_append_getElem hlt
 by_cases c:(ws.getD j default).part=p
 ·have e1:decide ((ws.getD j default).part=p)=true:=decide_eq_true c
  have hf:zbu (rep 1 [Value.int .i64 0,Value.int .i64 0,Value.int .i64 0]) [(0,3,.agg (Flat.enc (ws.getD j default)).toArray)]=some (zbj ([ws.getD j default]:List Win)):=by
   show zbu _ [(0,3,.agg ([i64 (ws.getD j default).part,i64 (ws.getD j default).start,i64 (ws.getD j default).len]:List V).toArray)]=_
   rw[zk (n:=3) rfl rfl (by decide),zb1]
   rfl
  (try simp (maxSteps:=999999) (disch:=try exact ZD) only[ZA,zo,zn,zm,zi,zj,zg,ze,zyj,z59,g2,hlen,a1,c0,e1,d1])
  refine zna (α:=Win) (n:=3) (ys:=[ws.getD j default]) s2 (i:=0) rfl rfl (by decide) hf rfl (by omega) (by omega) fun w' H3 s3=>?_
  simp only[List.set_cons_zero] at s3
  (try simp (maxSteps:=999999) (disch:=try exact ZD) only[ZB,z58])
  refine⟨hlt,w',rfl,?_⟩
  rw[htk,List.filter_append,List.filter_cons,e1]
  exact s3
 ·have e1:decide ((ws.getD j default).part=p)=false:=decide_eq_false c
  (try simp (maxSteps:=999999) (disch:=try exact ZD) only[ZA,zo,zn,zm,zk,zi,zj,zg,ze,zyj,z59,z58,g2,hlen,a1,c0,e1])
  refine⟨hlt,w,rfl,?_⟩
  rw[htk,List.filter_append,List.filter_cons,e1]
  simpa using s2
end Go.AM.Cap

/- conf, the document: the plan's Check -/
set_option maxHeartbeats 16000000
namespace Go.AM.Cap
open Go.AM Go.Proofs
theorem zb05 {H:Heap} {wv:V} {ws:List Win} (frame n:Int) (h:Sl H wv ws) (hl:ws.length≤1048576) (Q:V→Heap→Prop) (hQ:∀ a H',Keeps [] H H'→Q (.tuple #[i64 a,i64 (zsn frame ws n)]) H'):wp (ztk [.agg [i64 frame,wv].toArray,i64 n]) Q H:=by
 show wp (zf4 (.agg [i64 frame,wv].toArray) (i64 n)) Q H
 have ho:([i64 frame,wv]:List V).all Value.isOne=true:=by simp[h.isOne]
 have k1:Keeps [] H (H.push (some (.cells true [i64 frame,wv]))):=Keeps.push _ _ _
 have g1:(H.push (some (.cells true [i64 frame,wv]))).get H.next=some (.cells true [i64 frame,wv]):=Heap.get_push_self _ _
 by_cases c1:n < 1∨n > 8
 ·have q:=hQ (-1) _ k1
  rw[zsn,if_pos c1] at q
  by_cases c:n < 1
  ·(try simp (maxSteps:=999999) (disch:=try exact ZD) only[ZB,zf4,h.len])
   exact q
  ·(try simp (maxSteps:=999999) (disch:=try exact ZD) only[ZB,zf4,h.len])
   exact q
 by_cases c2:frame < 1∨frame > 65536∨ws.length < 1∨ws.length > 32
 ·have q:=hQ (-1) _ k1
  rw[zsn,if_neg c1,if_pos c2] at q
  by_cases d1:frame < 1
  ·(try simp (maxSteps:=999999) (disch:=try exact ZD) only[ZB,zf4,zid,h.len])
   exact q
  by_cases d2:frame > 65536
  ·(try simp (maxSteps:=999999) (disch:=try exact ZD) only[ZB,zf4,zid,h.len])
   exact q
  by_cases d3:ws.length < 1
  ·(try simp (maxSteps:=999999) (disch:=try exact ZD) only[ZB,zf4,zid,h.len])
   exact q
  ·(try simp (maxSteps:=999999) (disch:=try exact ZD) only[ZB,zf4,zid,h.len])
   exact q
 (try simp (maxSteps:=999999) (disch:=try exact ZD) only[ZB,zf4,zid,h.len,z6f])
 generalize H.push (some (.cells true [i64 frame,wv]))=H1 at *
 have hp:H.next < H1.next:=Heap.get_lt g1
 have hE:zsn frame ws n=if zke frame n 0 ws=true then 210 else if zh4 ws (-1) > 1 then 210 else if ∃ p∈List.range n.toNat,zh4 ws (p:Int)=0 then 210 else 0:=by rw[zsn,if_neg c1,if_neg c2]
 refine zbo ws.length (by omega) (fun j vs H'=>∃ e:Int,vs=[i64 n,ptr H.next 0,i64 e,i64 j]∧0≤e∧e≤frame∧Keeps [] H1 H'∧zke frame n e (ws.drop j)=zke frame n 0 ws) ⟨0,rfl,by omega,by omega,Keeps.refl _ _,rfl⟩ ?_
 rintro j vs H2 hj ⟨e,rfl,he0,he1,k2,hb⟩
 have g2:=k2.get g1 (by simp)
 have k02:=k1.trans k2 (fun _ _ h=>h)
 have h2:=h.keep0 k02
 have hlen:=h2.len
 by_cases hlt:j < ws.length
 ·rw[zbaa ws j default hlt,zke] at hb
  have a1:=h2.addr' (n:=3) rfl (k := .i64) (i:=j) (by omega) (by omega)
  rw[Int.toNat_natCast] at a1
  have d1:=fun Q=>h2.ldn' (Q:=Q) (n:=3) rfl hlt default
  generalize ws.getD j default=x at *
  obtain⟨wp_,ws_,wl_⟩:=x
  have kp:Keeps [] H1 (H2.push (some (.cells true [i64 wp_,i64 ws_,i64 wl_]))):=zbq k2
  have gp:(H2.push (some (.cells true [i64 wp_,i64 ws_,i64 wl_]))).get H.next=some (.cells true [i64 frame,wv]):=by rw[Heap.get_push_lt (by have:=Heap.get_lt g2;omega)];exact g2
  have gx:(H2.push (some (.cells true [i64 wp_,i64 ws_,i64 wl_]))).get H2.next=some (.cells true [i64 wp_,i64 ws_,i64 wl_]):=Heap.get_push_self _ _
  have hne:H.next≠H2.next:=by have:=Heap.get_lt g2;omega
  by_cases cb:zxp frame n e ⟨wp_,ws_,wl_⟩
  ·rw[if_pos cb] at hb
   have q:=hQ (j:Int) _ (k1.trans kp (fun _ _ h=>h))
   rw[hE,if_pos hb.symm] at q
   simp only[zxp] at cb
   by_cases e1:wp_ < -1
   ·(try simp (maxSteps:=999999) (disch:=try exact ZD) only[ZA,zo,zn,zm,zk,zi,zj,zg,ze,ze0,zgd,g2,hlen,a1,d1,zgj])
    exact q
   by_cases e2:wp_≥n
   ·(try simp (maxSteps:=999999) (disch:=try exact ZD) only[ZA,zo,zn,zm,zk,zi,zj,zg,ze,ze0,zgd,g2,hlen,a1,d1,zgj])
    exact q
   by_cases e3:wl_ < 1
   ·(try simp (maxSteps:=999999) (disch:=try exact ZD) only[ZA,zo,zn,zm,zk,zi,zj,zg,ze,ze0,zgd,g2,hlen,a1,d1,zgj])
    exact q
   by_cases e4:ws_ < e
   ·(try simp (maxSteps:=999999) (disch:=try exact ZD) only[ZA,zo,zn,zm,zk,zi,zj,zg,ze,ze0,zgd,g2,hlen,a1,d1,zgj])
    exact q
   by_cases e5:ws_ > frame
   ·(try simp (maxSteps:=999999) (disch:=try exact ZD) only[ZA,zo,zn,zm,zk,zi,zj,zg,ze,ze0,zgd,hlen,a1,d1,zgj,gp,gx,g2])
    exact q
   ·have e6:wl_ > frame - ws_:=by omega
    (try simp (maxSteps:=999999) (disch:=try exact ZD) only[ZA,zo,zn,zm,zk,zi,zj,zg,ze,ze0,zgd,hlen,a1,d1,zgj,gp,gx,g2])
    exact q
  ·rw[if_neg cb] at hb
   simp only[zxp] at cb
   (try simp (maxSteps:=999999) (disch:=try exact ZD) only[ZA,zo,zn,zm,zk,zi,zj,zg,ze,ze0,zgd,hlen,a1,d1,zgj,z6a,z6b,gp,gx,g2])
   exact⟨hlt,ws_ + wl_,rfl,by omega,by omega,kp,hb⟩
 have:j=ws.length:=by omega
 subst this
 rw[List.drop_length,zke] at hb
 rw[← hb] at hE
 have hl2:([i64 frame,wv]:List V).length=2:=rfl
 have hmn:∀ p:Int,zh4 ws p≤32:=fun p=>by
  have:zh4 ws p≤ws.length:=by rw[zh4];exact List.countP_le_length
  omega
 (try simp (maxSteps:=999999) (disch:=try exact ZD) only[ZB,ze0,z6e,g2,hlen])
 refine zbo (n.toNat + 1) (by omega) (fun j vs H'=>vs=[i64 n,ptr H.next 0,i64 ((j:Int) - 1)]∧Keeps [] H2 H'∧(1≤j→¬ zh4 ws (-1) > 1)∧∀ p,p + 1 < j→zh4 ws (p:Int)≠0) ⟨rfl,Keeps.refl _ _,by omega,by omega⟩ ?_
 rintro i vs H4 hi ⟨rfl,k4,hm1,hi2⟩
 have g4:=k4.get g2 (by simp)
 have k04:=k02.trans k4 (fun _ _ h=>h)
 by_cases hlt2:i < n.toNat + 1
 ·have d4:=fun Q=>zbb (Q:=Q) g4 hl2
  have e0:decide ((i:Int) - 1 < n)=true:=decide_eq_true (by omega)
  (try simp (maxSteps:=999999) (disch:=try exact ZD) only[ZA,zo,zn,zm,zk,zi,zj,zg,ze,zw6,z6c,e0,d4])
  refine zb7v frame (h.keep0 k04) hl ((i:Int) - 1) _ fun w H5 k5 hw=>?_
  have k05:=k04.trans k5 (fun _ _ h=>h)
  have hmm:=hmn ((i:Int) - 1)
  by_cases hi0:i=0
  ·subst hi0
   have em:((0:Nat):Int) - 1 = -1:=rfl
   rw[em] at hw hmm
   by_cases cm:zh4 ws (-1) > 1
   ·have q:=hQ (-1) _ k05
    rw[hE,if_neg (by simp),if_pos cm] at q
    have f2:decide ((zh4 ws (-1):Int) > 1)=true:=decide_eq_true (by omega)
    (try simp (maxSteps:=999999) (disch:=try exact ZD) only[ZB,em,hw,f2])
    exact q
   ·have f2:decide ((zh4 ws (-1):Int) > 1)=false:=decide_eq_false (by omega)
    (try simp (maxSteps:=999999) (disch:=try exact ZD) only[ZB,em,hw,f2,zw5])
    exact⟨by omega,rfl,k4.trans k5 (fun _ _ h=>h),fun _=>cm,by omega⟩
  ·have f0:decide ((i:Int) - 1≥0)=true:=decide_eq_true (by omega)
   have f3:decide ((i:Int) - 1 < 0)=false:=decide_eq_false (by omega)
   have em:((i:Int) - 1)=((i - 1:Nat):Int):=by omega
   by_cases cz:zh4 ws ((i:Int) - 1)=0
   ·have q:=hQ (-1) _ k05
    rw[hE,if_neg (by simp),if_neg (hm1 (by omega)),if_pos ⟨i - 1,List.mem_range.2 (by omega),by rw[← em];exact cz⟩] at q
    have f2:decide ((zh4 ws ((i:Int) - 1):Int)=0)=true:=decide_eq_true (by omega)
    (try simp (maxSteps:=999999) (disch:=try exact ZD) only[ZB,hw,f0,f2])
    exact q
   ·have f2:decide ((zh4 ws ((i:Int) - 1):Int)=0)=false:=decide_eq_false (by omega)
    (try simp (maxSteps:=999999) (disch:=try exact ZD) only[ZB,hw,f0,f2,f3,zw5])
    refine⟨hlt2,?_,k4.trans k5 (fun _ _ h=>h),fun _=>hm1 (by omega),fun p hp2=>?_⟩
    ·rw[show (((i + 1:Nat):Int) - 1)=(i:Int) - 1 + 1 by omega]
    ·by_cases hpi:p + 1 < i
     ·exact hi2 p hpi
     ·have:p=i - 1:=by omega
      subst this
      rw[← em];exact cz
 ·have:i=n.toNat + 1:=by omega
  subst this
  have q:=hQ 0 _ k04
  rw[hE,if_neg (by simp),if_neg (hm1 (by omega)),if_neg (by rintro⟨p,hp1,hp2⟩;exact hi2 p (by have:=List.mem_range.1 hp1;omega) hp2)] at q
  have e0:decide ((((n.toNat + 1:Nat):Int) - 1) < n)=false:=decide_eq_false (by omega)
  (try simp (maxSteps:=999999) (disch:=try exact ZD) only[ZB,zw6,z6d,e0])
  exact q
end Go.AM.Cap
