import Derived.Test.YtjchglndancedaaGreatDoorPnB
import Derived.Test.YtjchglndancedaaGreatDoorPoB
import Derived.Test.YtjchglndancedaaGreatDoorRoC
import Derived.Test.YtjchglndancedaaGreatDoorAmOpenN
import Derived.Test.YtjchglndancedaaGreatDoorAmIn
set_option linter.all false
/- conf: systems, setups; the plan's Check; loops that count up; copies -/
set_option maxHeartbeats 8000000
namespace Go.AM.Cap
open Go.AM Go.Proofs
theorem zbo {body:List V→M Out} {vs:List V} {Q:Out→Heap→Prop} {H:Heap} (n:Nat) (hn:n≤1000000000000) (Inv:Nat→List V→Heap→Prop) (h0:Inv 0 vs H)
  (hstep:∀ j vs H,j≤n→Inv j vs H→wp (body vs) (fun o H'=>match o with | .nxt vs'=>j < n∧Inv (j + 1) vs' H' | o=>Q o H') H):wp (zba zbm body vs) Q H:=by
 refine zd6 (Inv:=fun k vs H=>∃ j,k=n - j∧j≤n∧Inv j vs H) (n:=n) (by unfold zbm;omega) ⟨0,by omega,by omega,h0⟩ ?_
 rintro k vs H ⟨j,hk,hj,hi⟩
 refine zbci (hstep j vs H hj hi) fun o H' ho=>?_
 cases o with
 | nxt vs'=>obtain⟨h1,h2⟩:=ho;exact⟨n - (j + 1),by omega,j + 1,rfl,by omega,h2⟩
 | brk i vs'=>exact ho
 | ret vs'=>exact ho
theorem zs3 {α:Type} [Flat α] {H:Heap} {v:V} {l:List α} {n bytes:Nat} {zero:List V} (hs:Flat.size α=n) (hz:zbu (rep 0 zero) []=some (zbj ([]:List α))) (hz2:(rep 0 zero).all zge=true) (h:Sl H v l) (hl:l.length≤100000000) (hb:bytes≤1000) (Q:V→Heap→Prop) (hQ:∀ w H',zh7 H' w l→Keeps [] H H'→(∀ b∈vb w,H.next≤b)→Q w H') :
  wp (zb (zb (zb (za (zer false (zef .s v))) fun x4=>zp x4 (ret (.ret [(Value.slice none 0 0)])) (ret (.nxt [v]))) fun o=>nx o fun vs=>zb (zcc n 0 (rep 0 zero) []) fun x5=>zb (zd0 n bytes x5 (zd vs 0)) fun x7=>ret (.ret [x7])) fun o=>zbk o fun vs=>ret (zbi [(zd vs 0)])) Q H:=by
 by_cases hn:v = .slice none 0 0
 ·subst hn
  have hl0:l=[]:=by
   rcases h with⟨_,rfl⟩ | ⟨b,o,u,c,e,_⟩
   ·rfl
   ·cases e
  subst hl0
  have e:zer false (zef .s (Value.slice none 0 0:V))=some (.bool true):=rfl
  (try simp (maxSteps:=999999) (disch:=try exact ZD) only[ZB,e])
  exact hQ _ H (zh7.nil _) (Keeps.refl _ _) (by simp)
 ·have e:zer false (zef .s v)=some (.bool false):=by
   rcases h with⟨rfl,_⟩ | ⟨b,o,u,c,rfl,_⟩
   ·exact absurd rfl hn
   ·rfl
  (try simp (maxSteps:=999999) (disch:=try exact ZD) only[ZB,e])
  refine (zdf hz2 hz).mpr ?_
  have k1:Keeps [] H (H.push (some (.cells true (zbj ([]:List α))))):=Keeps.push _ _ _
  have o1:=z0f (H:=H) (xs:=([]:List α)) (n:=n) (m:=0) hs rfl
  have n1:(H.push (some (.cells true (zbj ([]:List α))))).next=H.next + 1:=by simp
  generalize H.push (some (.cells true (zbj ([]:List α))))=H1 at *
  (try simp (maxSteps:=999999) (disch:=try exact ZD) only[ZB])
  have hmul:l.length * bytes≤100000000 * 1000:=Nat.mul_le_mul hl hb
  refine z71 (α:=α) hs o1 (h.keep0 k1) (by simp;omega) (by simp;omega) fun w H2 o2 k2 v2=>?_
  rw[List.nil_append] at o2
  (try simp (maxSteps:=999999) (disch:=try exact ZD) only[ZB])
  refine hQ w H2 o2 (k1.trans k2 fun b hb hm=>by simp at hm;omega) fun b hb=>?_
  rcases v2 b hb with q | q
  ·simp at q;omega
  ·omega
structure Win where
 part:Int
 start:Int
 len:Int
 deriving DecidableEq,Inhabited
instance:Flat Win:=⟨3,fun p=>[i64 p.part,i64 p.start,i64 p.len],fun _=>rfl,fun _=>rfl,by decide⟩
theorem zgj (p:Win):Flat.enc p=[i64 p.part,i64 p.start,i64 p.len]:=rfl
structure Bd where
 kind:Int
 n:Int
 deriving DecidableEq,Inhabited
instance:Flat Bd:=⟨2,fun p=>[i64 p.kind,i64 p.n],fun _=>rfl,fun _=>rfl,by decide⟩
theorem zxo (p:Bd):Flat.enc p=[i64 p.kind,i64 p.n]:=rfl
structure Un where
 ins:In Bd
 outs:In Bd
instance:Inhabited Un:=⟨⟨default,default⟩⟩
instance:Flat Un:=⟨2,fun u=>[u.ins.v,u.outs.v],fun _=>rfl,fun u=>by simp[u.ins.one,u.outs.one],by decide⟩
theorem zbos (u:Un):Flat.enc u=[u.ins.v,u.outs.v]:=rfl
structure PUn where
 ins:List Bd
 outs:List Bd
 deriving DecidableEq,Inhabited
def Un.p (u:Un):PUn:=⟨u.ins.xs,u.outs.xs⟩
structure PUs where
 name:ByteArray
 key:ByteArray
 rs:List Rl
 deriving DecidableEq
instance:Inhabited PUs:=⟨⟨⟨#[]⟩,⟨#[]⟩,[]⟩⟩
def Us.p (u:Us):PUs:=⟨u.name,u.key,u.rs.xs⟩
structure Sy where
 pts:List Pt
 grs:List Gr
 prs:List Port
 frame:Int
 wins:List Win
 uns:List PUn
 millis:Int
 deriving DecidableEq,Inhabited
structure Units (H:Heap) (v:V) (l:List Un):Prop where
 out:Sl H v l
 inn:∀ u∈l,Sl H u.ins.v u.ins.xs∧Sl H u.outs.v u.outs.xs
theorem Units.keep0 {H H':Heap} {v:V} {l:List Un} (h:Units H v l) (hk:Keeps [] H H'):Units H' v l:=⟨h.out.keep0 hk,fun u hu=>⟨(h.inn u hu).1.keep0 hk,(h.inn u hu).2.keep0 hk⟩⟩
theorem Units.at {H:Heap} {v:V} {l:List Un} (h:Units H v l) {i:Nat} (hi:i < l.length):Sl H (l.getD i default).ins.v (l.getD i default).ins.xs∧Sl H (l.getD i default).outs.v (l.getD i default).outs.xs:=h.inn _ (zbh hi)
structure SyV where
 pv:V
 gv:V
 qv:V
 wv:V
 uv:V
def SyV.cs (x:SyV) (s:Sy):List V:=[x.pv,x.gv,x.qv,i64 s.frame,x.wv,x.uv,i64 s.millis]
structure SysAt (H:Heap) (x:SyV) (s:Sy):Prop where
 pts:Sl H x.pv s.pts
 grs:Sl H x.gv s.grs
 prs:Sl H x.qv s.prs
 wins:Sl H x.wv s.wins
 uns:∃ l:List Un,Units H x.uv l∧l.map Un.p=s.uns
 small:s.pts.length≤1048576∧s.grs.length≤1048576∧s.prs.length≤1048576∧s.wins.length≤1048576∧s.uns.length≤1048576
theorem SysAt.keep0 {H H':Heap} {x:SyV} {s:Sy} (h:SysAt H x s) (hk:Keeps [] H H'):SysAt H' x s:=⟨h.pts.keep0 hk,h.grs.keep0 hk,h.prs.keep0 hk,h.wins.keep0 hk,by obtain⟨l,h1,h2⟩:=h.uns;exact⟨l,h1.keep0 hk,h2⟩,h.small⟩
theorem SysAt.one {H:Heap} {x:SyV} {s:Sy} (h:SysAt H x s):(x.cs s).all Value.isOne=true:=by
 obtain⟨l,h1,_⟩:=h.uns
 simp[SyV.cs,h.pts.isOne,h.grs.isOne,h.prs.isOne,h.wins.isOne,h1.out.isOne]
def zh4 (ws:List Win) (p:Int):Nat:=ws.countP fun w=>decide (w.part=p)
def zxp (frame n e:Int) (w:Win):Prop:=w.part < -1∨w.part≥n∨w.len < 1∨w.start < e∨w.start > frame∨w.len > frame - w.start
instance (frame n e:Int) (w:Win):Decidable (zxp frame n e w):=by unfold zxp;exact inferInstance
def zke (frame n:Int):Int→List Win→Bool
 | _,[]=>false
 | e,w :: ws=>if zxp frame n e w then true else zke frame n (w.start + w.len) ws
def zsn (frame:Int) (ws:List Win) (n:Int):Int :=
 if n < 1∨n > 8 then 1 else
 if frame < 1∨frame > 65536∨ws.length < 1∨ws.length > 32 then 210 else
 if zke frame n 0 ws=true then 210 else
 if zh4 ws (-1) > 1 then 210 else
 if ∃ p∈List.range n.toNat,zh4 ws (p:Int)=0 then 210 else 0
theorem zbvf {H:Heap} {wv:V} {ws:List Win} (frame:Int) (h:Sl H wv ws) (hl:ws.length≤1048576) (p:Int) (Q:V→Heap→Prop) (hQ:∀ H',Keeps [] H H'→Q (i64 (zh4 ws p)) H'):wp (zt2 [.agg [i64 frame,wv].toArray,i64 p]) Q H:=by
 show wp (z5f (.agg [i64 frame,wv].toArray) (i64 p)) Q H
 have ho:([i64 frame,wv]:List V).all Value.isOne=true:=by simp[h.isOne]
 (try simp (maxSteps:=999999) (disch:=try exact ZD) only[ZB,z5f,h.len])
 have k1:Keeps [] H (H.push (some (.cells true [i64 frame,wv]))):=Keeps.push _ _ _
 generalize H.push (some (.cells true [i64 frame,wv]))=H1 at *
 have hH1:=h.keep0 k1
 have htake:zh4 (ws.take 0) p=0:=rfl
 refine zbo ws.length (by omega) (fun j vs H'=>vs=[i64 p,i64 (zh4 (ws.take j) p),wv,i64 ws.length,i64 j]∧Keeps [] H H') ⟨rfl,k1⟩ ?_
 rintro j vs H2 hj ⟨rfl,k2⟩
 by_cases hlt:j < ws.length
 case neg =>
  have:j=ws.length:=by omega
  subst this
  (try simp (maxSteps:=999999) (disch:=try exact ZD) only[ZB,zu8,zbcw])
  rw[List.take_length]
  exact hQ _ k2
 have h2:=h.keep0 k2
 have a1:=h2.addr' (n:=3) rfl (k := .i64) (i:=j) (by omega) (by omega)
 rw[Int.toNat_natCast] at a1
 have d1:=fun Q=>h2.ldn' (Q:=Q) (n:=3) rfl hlt default
 have hts:ws.take (j + 1)=ws.take j ++ [ws.getD j default]:=by
  rw[List.getD_eq_getElem?_getD,List.getElem?_eq_getElem hlt];exact List.take_succ_eq_append_getElem hlt
 have hcnt:(zh4 (ws.take j) p:Int)≤1048576:=by
  have:zh4 (ws.take j) p≤(ws.take j).length:=List.countP_le_length
  rw[List.length_take] at this
  omega
 rw[hts]
 simp only[zh4,List.countP_append] at hcnt ⊢
 generalize ws.getD j default=x at *
 by_cases hx:x.part=p
 ·(try simp (maxSteps:=999999) (disch:=try exact ZD) only[ZA,zo,zn,zm,zk,zi,zj,zg,ze,zu8,z1w,z1v,a1,d1,zgj,hx])
  simp[hx,hlt]
  exact zbq k2
 ·(try simp (maxSteps:=999999) (disch:=try exact ZD) only[ZA,zo,zn,zm,zk,zi,zj,zg,ze,zu8,z1w,z1v,a1,d1,zgj])
  simp[hx,hlt]
  exact zbq k2
end Go.AM.Cap

/- conf: the plan's Check -/
set_option maxHeartbeats 8000000
namespace Go.AM.Cap
open Go.AM Go.Proofs
theorem zblt {H:Heap} {wv:V} {ws:List Win} (frame n:Int) (h:Sl H wv ws) (hl:ws.length≤1048576) (Q:V→Heap→Prop) (hQ:∀ a H',Keeps [] H H'→Q (.tuple #[i64 a,i64 (zsn frame ws n)]) H'):wp (zu9 [.agg [i64 frame,wv].toArray,i64 n]) Q H:=by
 show wp (zg1 (.agg [i64 frame,wv].toArray) (i64 n)) Q H
 have ho:([i64 frame,wv]:List V).all Value.isOne=true:=by simp[h.isOne]
 have k1:Keeps [] H (H.push (some (.cells true [i64 frame,wv]))):=Keeps.push _ _ _
 have g1:(H.push (some (.cells true [i64 frame,wv]))).get H.next=some (.cells true [i64 frame,wv]):=Heap.get_push_self _ _
 by_cases c1:n < 1∨n > 8
 ·have q:=hQ (-1) _ k1
  rw[zsn,if_pos c1] at q
  by_cases c:n < 1
  ·(try simp (maxSteps:=999999) (disch:=try exact ZD) only[ZB,zg1,h.len])
   exact q
  ·(try simp (maxSteps:=999999) (disch:=try exact ZD) only[ZB,zg1,h.len])
   exact q
 by_cases c2:frame < 1∨frame > 65536∨ws.length < 1∨ws.length > 32
 ·have q:=hQ (-1) _ k1
  rw[zsn,if_neg c1,if_pos c2] at q
  by_cases d1:frame < 1
  ·(try simp (maxSteps:=999999) (disch:=try exact ZD) only[ZB,zg1,h.len])
   exact q
  by_cases d2:frame > 65536
  ·(try simp (maxSteps:=999999) (disch:=try exact ZD) only[ZB,zg1,h.len])
   exact q
  by_cases d3:ws.length < 1
  ·(try simp (maxSteps:=999999) (disch:=try exact ZD) only[ZB,zg1,h.len])
   exact q
  ·(try simp (maxSteps:=999999) (disch:=try exact ZD) only[ZB,zg1,h.len])
   exact q
 (try simp (maxSteps:=999999) (disch:=try exact ZD) only[ZB,zg1,h.len,z5g])
 generalize H.push (some (.cells true [i64 frame,wv]))=H1 at *
 have hp:H.next < H1.next:=Heap.get_lt g1
 have hE:zsn frame ws n=if zke frame n 0 ws=true then 210 else if zh4 ws (-1) > 1 then 210 else if ∃ p∈List.range n.toNat,zh4 ws (p:Int)=0 then 210 else 0:=by rw[zsn,if_neg c1,if_neg c2]
 refine zbo ws.length (by omega) (fun j vs H'=>∃ e:Int,vs=[i64 n,ptr H.next 0,i64 e,wv,i64 ws.length,i64 j]∧0≤e∧e≤frame∧Keeps [] H1 H'∧zke frame n e (ws.drop j)=zke frame n 0 ws) ⟨0,rfl,by omega,by omega,Keeps.refl _ _,rfl⟩ ?_
 rintro j vs H2 hj ⟨e,rfl,he0,he1,k2,hb⟩
 have g2:=k2.get g1 (by simp)
 have k02:=k1.trans k2 (fun _ _ h=>h)
 have h2:=h.keep0 k02
 by_cases hlt:j < ws.length
 ·rw[zbaa ws j default hlt,zke] at hb
  have a1:=h2.addr' (n:=3) rfl (k := .i64) (i:=j) (by omega) (by omega)
  rw[Int.toNat_natCast] at a1
  have d1:=fun Q=>h2.ldn' (Q:=Q) (n:=3) rfl hlt default
  generalize ws.getD j default=x at *
  obtain⟨wp_,ws_,wl_⟩:=x
  have kp:Keeps [] H1 (H2.push (some (.cells true [i64 wp_,i64 ws_,i64 wl_]))):=zbq k2
  have gp:(H2.push (some (.cells true [i64 wp_,i64 ws_,i64 wl_]))).get H.next=some (.cells true [i64 frame,wv]):=by rw[Heap.get_push_lt (by have:=Heap.get_lt g2;omega)];exact g2
  have gx:(H2.push (some (.cells true [i64 wp_,i64 ws_,i64 wl_]))).get H2.next=some (.cells true [i64 wp_,i64 ws_,i64 wl_]):=Heap.get_push_self _ _
  have hne:H.next≠H2.next:=by have:=Heap.get_lt g2;omega
  by_cases cb:zxp frame n e ⟨wp_,ws_,wl_⟩
  ·rw[if_pos cb] at hb
   have q:=hQ (j:Int) _ (k1.trans kp (fun _ _ h=>h))
   rw[hE,if_pos hb.symm] at q
   simp only[zxp] at cb
   by_cases e1:wp_ < -1
   ·(try simp (maxSteps:=999999) (disch:=try exact ZD) only[ZA,zo,zn,zm,zk,zi,zj,zg,ze,zf1,zg8,a1,d1,zgj])
    exact q
   by_cases e2:wp_≥n
   ·(try simp (maxSteps:=999999) (disch:=try exact ZD) only[ZA,zo,zn,zm,zk,zi,zj,zg,ze,zf1,zg8,a1,d1,zgj])
    exact q
   by_cases e3:wl_ < 1
   ·(try simp (maxSteps:=999999) (disch:=try exact ZD) only[ZA,zo,zn,zm,zk,zi,zj,zg,ze,zf1,zg8,a1,d1,zgj])
    exact q
   by_cases e4:ws_ < e
   ·(try simp (maxSteps:=999999) (disch:=try exact ZD) only[ZA,zo,zn,zm,zk,zi,zj,zg,ze,zf1,zg8,a1,d1,zgj])
    exact q
   by_cases e5:ws_ > frame
   ·(try simp (maxSteps:=999999) (disch:=try exact ZD) only[ZA,zo,zn,zm,zk,zi,zj,zg,ze,zf1,zg8,a1,d1,zgj,gp,gx,g2])
    exact q
   ·have e6:wl_ > frame - ws_:=by omega
    (try simp (maxSteps:=999999) (disch:=try exact ZD) only[ZA,zo,zn,zm,zk,zi,zj,zg,ze,zf1,zg8,a1,d1,zgj,gp,gx,g2])
    exact q
  ·rw[if_neg cb] at hb
   simp only[zxp] at cb
   (try simp (maxSteps:=999999) (disch:=try exact ZD) only[ZA,zo,zn,zm,zk,zi,zj,zg,ze,zf1,zg8,a1,d1,zgj,z89,z9a,gp,gx,g2])
   exact⟨hlt,ws_ + wl_,rfl,by omega,by omega,kp,hb⟩
 have:j=ws.length:=by omega
 subst this
 rw[List.drop_length,zke] at hb
 rw[← hb] at hE
 have hl2:([i64 frame,wv]:List V).length=2:=rfl
 have d2:=fun Q=>zbb (Q:=Q) g2 hl2
 (try simp (maxSteps:=999999) (disch:=try exact ZD) only[ZA,zo,zn,zm,zk,zi,zj,zg,ze,zf1,z9f,d2])
 refine zbvf frame h2 hl (-1) _ fun H3 k3=>?_
 have g3:=k3.get g2 (by simp)
 have k03:=k02.trans k3 (fun _ _ h=>h)
 by_cases cm:zh4 ws (-1) > 1
 ·have q:=hQ (-1) _ k03
  rw[hE,if_neg (by simp),if_pos cm] at q
  (try simp (maxSteps:=999999) (disch:=try exact ZD) only[ZB])
  exact q
 rw[if_neg (by simp),if_neg cm] at hE
 (try simp (maxSteps:=999999) (disch:=try exact ZD) only[ZB,z9e])
 refine zbo n.toNat (by omega) (fun j vs H'=>vs=[ptr H.next 0,i64 n,i64 j]∧Keeps [] H3 H'∧∀ p,p < j→zh4 ws (p:Int)≠0) ⟨rfl,Keeps.refl _ _,by omega⟩ ?_
 rintro i vs H4 hi ⟨rfl,k4,hi2⟩
 have g4:=k4.get g3 (by simp)
 have k04:=k03.trans k4 (fun _ _ h=>h)
 by_cases hlt2:i < n.toNat
 ·have d4:=fun Q=>zbb (Q:=Q) g4 hl2
  (try simp (maxSteps:=999999) (disch:=try exact ZD) only[ZA,zo,zn,zm,zk,zi,zj,zg,ze,zzh,z9c,d4])
  refine zbvf frame (h.keep0 k04) hl i _ fun H5 k5=>?_
  by_cases cz:zh4 ws (i:Int)=0
  ·have q:=hQ (-1) _ (k04.trans k5 (fun _ _ h=>h))
   rw[hE,if_pos ⟨i,List.mem_range.2 hlt2,cz⟩] at q
   rw[cz]
   (try simp (maxSteps:=999999) (disch:=try exact ZD) only[ZB])
   exact q
  ·have:¬ ((zh4 ws (i:Int):Int)=0):=by omega
   (try simp (maxSteps:=999999) (disch:=try exact ZD) only[ZB,z9b])
   refine⟨hlt2,rfl,k4.trans k5 (fun _ _ h=>h),fun p hp2=>?_⟩
   rcases Nat.lt_or_eq_of_le (Nat.lt_succ_iff.1 hp2) with q | rfl
   ·exact hi2 p q
   ·exact cz
 ·have:i=n.toNat:=by omega
  subst this
  have q:=hQ 0 _ k04
  rw[hE,if_neg (by rintro⟨p,hp1,hp2⟩;exact hi2 p (List.mem_range.1 hp1) hp2)] at q
  (try simp (maxSteps:=999999) (disch:=try exact ZD) only[ZB,zzh,z9d])
  exact q
end Go.AM.Cap
