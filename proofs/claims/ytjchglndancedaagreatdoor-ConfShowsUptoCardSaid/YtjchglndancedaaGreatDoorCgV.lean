import Derived.Test.YtjchglndancedaaGreatDoorCgU
import Derived.Test.YtjchglndancedaaGreatDoorAmIn
set_option linter.all false
/- conf, the document (after SeO): users: named, user, Check, and the desk's New -/
set_option maxHeartbeats 16000000
namespace Go.AM.Cap
open Go.AM Go.Proofs
theorem zbsv:∀ b:BitVec 8,inS (bv letters) b=decide ((97≤b.toNat∧b.toNat≤122)∨(48≤b.toNat∧b.toNat≤57)):=by
 decide +kernel
theorem zbyb {H:Heap} (n:ByteArray) (Q:V→Heap→Prop) (hQ:Q (.bool (zm2 n)) H):wp (ztm [.string n]) Q H:=by
 show wp (zo1 (.string n)) Q H
 by_cases h0:n=⟨#[]⟩
 ·have e:zm2 n=false:=by unfold zm2;rw[decide_eq_false (by simp[h0])];rfl
  rw[e] at hQ
  (try simp (maxSteps:=999999) (disch:=try exact ZD) only[ZB,zo1])
  exact hQ
 by_cases h1:n.size≤24
 case neg =>
  have e:zm2 n=false:=by unfold zm2;rw[decide_eq_false (by omega)];rfl
  rw[e] at hQ
  (try simp (maxSteps:=999999) (disch:=try exact ZD) only[ZB,zo1])
  exact hQ
 have e:zm2 n=(bv n).all (inS (bv letters)):=by unfold zm2;rw[decide_eq_true ⟨h0,h1⟩];rfl
 rw[e] at hQ
 have hbl:=zci n
 (try simp (maxSteps:=999999) (disch:=try exact ZD) only[ZB,zo1,z6y])
 refine zd6 (Inv:=fun k vs H'=>∃ j:Nat,k=n.size - j∧j≤n.size∧vs=[.string n,i64 j]∧H'=H∧∀ i,i < j→inS (bv letters) ((bv n).getD i 0)=true) (n:=n.size) (by unfold zbm;omega)
  ⟨0,by omega,by omega,rfl,rfl,by omega⟩ ?_
 rintro k vs H1 ⟨j,hk,hj,rfl,he,hm⟩
 rw[he];clear he H1
 by_cases hlt:j < n.size
 case neg =>
  have ha:(bv n).all (inS (bv letters))=true:=by
   rw[List.all_eq_true]
   intro b hb
   obtain⟨i,hi,rfl⟩:=List.getElem_of_mem hb
   have:=hm i (by omega)
   rw[List.getD_eq_getElem?_getD,List.getElem?_eq_getElem hi] at this
   exact this
  rw[ha] at hQ
  (try simp (maxSteps:=999999) (disch:=try exact ZD) only[ZB,zhq,z6x])
  exact hQ
 have hix:=ztb (s:=n) (k := .i64) (i:=(j:Int)) (by omega) (by omega)
 rw[Int.toNat_natCast] at hix
 have hin:=zbsv ((bv n).getD j 0)
 have hmem:=zbh (d:=(0:BitVec 8)) (show j < (bv n).length by omega)
 generalize hbe:(bv n).getD j 0=b at *
 have bad:inS (bv letters) b=false→Q (.bool false) H:=fun hf=>by
  have ha:(bv n).all (inS (bv letters))=false:=by
   rw[Bool.eq_false_iff]
   intro q
   rw[List.all_eq_true] at q
   rw[q b hmem] at hf
   cases hf
  rw[ha] at hQ;exact hQ
 have good:inS (bv letters) b=true→∃ k',k' < k∧∃ j_1:Nat,k'=n.size - j_1∧j_1≤n.size∧[(.string n:V),i64 ((j:Int) + 1)]=[.string n,i64 j_1]∧H=H∧∀ i,i < j_1→inS (bv letters) ((bv n).getD i 0)=true:=fun ht=>by
  refine⟨n.size - (j + 1),by omega,j + 1,rfl,by omega,by push_cast;rfl,rfl,fun i hi=>?_⟩
  rcases Nat.lt_or_eq_of_le (Nat.lt_succ_iff.1 hi) with q | rfl
  ·exact hm i q
  ·rw[hbe];exact ht
 by_cases b1:(97≤b.toNat∧b.toNat≤122)
 ·have ht:=hin.trans (decide_eq_true (.inl b1))
  (try simp (maxSteps:=999999) (disch:=try exact ZD) only[ZB,zhq,zji,hix,zxc])
  simpa using good ht
 by_cases b2:(48≤b.toNat∧b.toNat≤57)
 ·have ht:=hin.trans (decide_eq_true (.inr b2))
  by_cases b3:97≤b.toNat
  ·omega
  ·(try simp (maxSteps:=999999) (disch:=try exact ZD) only[ZB,zhq,zji,hix,zxc])
   simpa using good ht
 ·have hf:=hin.trans (decide_eq_false (by omega))
  have hb:=bad hf
  by_cases b3:97≤b.toNat
  ·by_cases b4:48≤b.toNat
   ·(try simp (maxSteps:=999999) (disch:=try exact ZD) only[ZB,zhq,zji,hix])
    exact hb
   ·omega
  ·by_cases b4:48≤b.toNat
   ·(try simp (maxSteps:=999999) (disch:=try exact ZD) only[ZB,zhq,zji,hix])
    exact hb
   ·(try simp (maxSteps:=999999) (disch:=try exact ZD) only[ZB,zhq,zji,hix])
    exact hb
theorem zb1a {α:Type} {l:List α} {d:α} {p:α→Prop} {i:Nat} (h:∀ j,j < i→p (l.getD j d)) (hi:i≤l.length):∀ x∈l.take i,p x:=by
 intro x hx
 obtain⟨j,hj,rfl⟩:=List.getElem_of_mem hx
 rw[List.length_take] at hj
 have:=h j (by omega)
 rw[List.getD_eq_getElem?_getD,List.getElem?_eq_getElem (show j < l.length by omega)] at this
 rw[List.getElem_take]
 exact this
def zbm6 (l:List Us) (i:Nat) (parts:Int):Int:=if ze3 (l.getD i default) then (if (zyt (l.take i) (l.getD i default).name).isSome then 6 else zok (l.getD i default).rs.xs parts) else 3
theorem zbgx {xs:List Rl}:(xs.map (·.part)).Nodup↔∀ k j,j < k→k < xs.length→(xs.getD j default).part≠(xs.getD k default).part:=by
 rw[List.Nodup,List.pairwise_map,List.pairwise_iff_getElem]
 constructor
 ·intro h k j hj hk
  have:=h j k (by omega) hk hj
  rwa[List.getD_eq_getElem?_getD,List.getD_eq_getElem?_getD,List.getElem?_eq_getElem hk,List.getElem?_eq_getElem (show j < xs.length by omega)]
 ·intro h j k hj hk hjk
  have:=h k j hjk hk
  rwa[List.getD_eq_getElem?_getD,List.getD_eq_getElem?_getD,List.getElem?_eq_getElem hk,List.getElem?_eq_getElem (show j < xs.length by omega)] at this
set_option maxRecDepth 20000 in
theorem zb1b {H:Heap} {v:V} {l:List Us} (h:Users H v l) (hl:l.length≤1000000000) {i:Nat} (hi:i < l.length) (parts:Int) (Q:V→Heap→Prop) (hQ:∀ H',Keeps [] H H'→Q (i64 (zbm6 l i parts)) H'):wp (zvk [v,i64 i,i64 parts]) Q H:=by
 show wp (z2b v (i64 i) (i64 parts)) Q H
 have a0:=h.out.addr' (n:=3) rfl (k := .i64) (i:=(i:Int)) (by omega) (by omega)
 rw[Int.toNat_natCast] at a0
 have r0:=fun Q=>h.out.ldn' (Q:=Q) (n:=3) rfl hi default
 obtain⟨hrs,hrl⟩:=h.at hi
 unfold zbm6 at hQ
 have hu:l.getD i default=l.getD i default:=rfl
 generalize hue:l.getD i default=u at *
 have ho:=zbbm u
 (try simp (maxSteps:=999999) (disch:=try exact ZD) only[ZA,zo,zn,zm,zk,zi,zj,zg,ze,z2b,a0,r0,z7d])
 have k1:Keeps [] H (H.push (some (.cells true [.string u.name,.string u.key,u.rs.v]))):=Keeps.push _ _ _
 have g1:(H.push (some (.cells true [.string u.name,.string u.key,u.rs.v]))).get H.next=some (.cells true [.string u.name,.string u.key,u.rs.v]):=Heap.get_push_self _ _
 generalize H.push (some (.cells true [.string u.name,.string u.key,u.rs.v]))=H1 at *
 (try simp (maxSteps:=999999) (disch:=try exact ZD) only[ZB,g1])
 refine zbyb u.name _ ?_
 have hfm:ze3 u=(zm2 u.name && decide (16≤u.key.size∧u.key.size≤64)):=rfl
 cases hnn:zm2 u.name with
 | false =>
  rw[hfm,hnn,Bool.false_and,if_neg (by decide)] at hQ
  (try simp (maxSteps:=999999) (disch:=try exact ZD) only[ZB])
  exact hQ _ k1
 | true =>
  by_cases hk1:u.key.size < 16
  ·rw[hfm,hnn,decide_eq_false (by omega),Bool.and_false,if_neg (by decide)] at hQ
   (try simp (maxSteps:=999999) (disch:=try exact ZD) only[ZB,g1])
   exact hQ _ k1
  by_cases hk2:u.key.size > 64
  ·rw[hfm,hnn,decide_eq_false (by omega),Bool.and_false,if_neg (by decide)] at hQ
   (try simp (maxSteps:=999999) (disch:=try exact ZD) only[ZB,g1])
   exact hQ _ k1
  rw[hfm,hnn,decide_eq_true (by omega),Bool.and_true,if_pos rfl] at hQ
  (try simp (maxSteps:=999999) (disch:=try exact ZD) only[ZB,g1,z63])
  refine zd6 (Inv:=fun k vs H'=>∃ j:Nat,k=i - j∧j≤i∧vs=[v,i64 i,i64 parts,ptr H.next 0,i64 j]∧H'=H1∧∀ m,m < j→(l.getD m default).name≠u.name) (n:=i) (by unfold zbm;omega)
   ⟨0,by omega,by omega,rfl,rfl,by omega⟩ ?_
  rintro k vs H2 ⟨j,hk,hj,rfl,he,hm⟩
  rw[he];clear he H2
  by_cases hlt:j < i
  case pos =>
   have h1:=h.keep0 k1
   have a1:=h1.out.addr' (n:=3) rfl (k := .i64) (i:=(j:Int)) (by omega) (by omega)
   have c1:=h1.out.cell' (n:=3) rfl (i:=j) (off:=0) (by omega) (by omega) default
   rw[Int.toNat_natCast] at a1
   rw[zbd,Nat.add_zero] at c1
   have c1':zes (H1.get (slB v)) (slO v + j * 3)=some (.string (l.getD j default).name):=c1
   by_cases hx:(l.getD j default).name=u.name
   ·have hf:(zyt (l.take i) u.name).isSome=true:=by
     cases hq:zyt (l.take i) u.name with
     | some _=>rfl
     | none =>
      have:=zs2.1 hq (l.getD j default) (by
       rw[List.getD_eq_getElem?_getD,List.getElem?_eq_getElem (show j < l.length by omega)]
       exact List.mem_take_iff_getElem.2 ⟨j,by omega,rfl⟩)
      exact absurd hx (of_decide_eq_false this)
    rw[hf,if_pos rfl] at hQ
    (try simp (maxSteps:=999999) (disch:=try exact ZD) only[ZB,ztn,zzz,a1,c1',g1,hx])
    exact hQ _ k1
   ·(try simp (maxSteps:=999999) (disch:=try exact ZD) only[ZB,ztn,zzz,a1,c1',g1,hx,z9z])
    refine⟨i - (j + 1),by omega,j + 1,rfl,by omega,by push_cast;rfl,fun m hm'=>?_⟩
    rcases Nat.lt_or_eq_of_le (Nat.lt_succ_iff.1 hm') with q | rfl
    ·exact hm m q
    ·exact hx
  have hji:j=i:=by omega
  subst hji
  have hf:(zyt (l.take j) u.name).isSome=false:=by
   have:zyt (l.take j) u.name=none:=zs2.2 fun x hx=>decide_eq_false (zb1a (d:=default) (p:=fun x=>x.name≠u.name) hm (by omega) x hx)
   rw[this];rfl
  rw[hf,if_neg (by decide)] at hQ
  (try simp (maxSteps:=999999) (disch:=try exact ZD) only[ZB,ztn,z62])
  refine zd6 (Inv:=fun k vs H'=>∃ t:Nat,k=u.rs.xs.length - t∧t≤u.rs.xs.length∧vs=[i64 parts,ptr H.next 0,i64 t]∧Keeps [] H1 H'∧∀ m,m < t→zvn parts (u.rs.xs.getD m default)=false) (n:=u.rs.xs.length) (by unfold zbm;omega)
   ⟨0,by omega,by omega,rfl,Keeps.refl _ _,by omega⟩ ?_
  rintro k' vs' H2 ⟨t,hk',ht,rfl,k2,hb⟩
  have g2:=k2.get g1 (by simp)
  have k02:=k1.trans k2 (by simp)
  have hrs2:=hrs.keep0 k02
  have hlen:=hrs2.len
  by_cases hlt2:t < u.rs.xs.length
  case pos =>
   have a1:=hrs2.addr' (n:=2) rfl (k := .i64) (i:=(t:Int)) (by omega) (by omega)
   rw[Int.toNat_natCast] at a1
   have r1:=fun Q=>hrs2.ldn' (Q:=Q) (n:=2) rfl hlt2 default
   have hbad:zvn parts (u.rs.xs.getD t default)=true→zok u.rs.xs parts=1:=fun q=>by
    unfold zok
    rw[if_pos (List.any_eq_true.2 ⟨_,zbh hlt2,q⟩)]
   have hgood:zvn parts (u.rs.xs.getD t default)=false→∀ m,m < t + 1→zvn parts (u.rs.xs.getD m default)=false:=fun q m hm'=>by
    rcases Nat.lt_or_eq_of_le (Nat.lt_succ_iff.1 hm') with z | rfl
    ·exact hb m z
    ·exact q
   generalize u.rs.xs.getD t default=r at *
   have k3:Keeps [] H1 (H2.push (some (.cells true [i64 r.part,i64 r.level]))):=zbq k2
   have step:(zvn parts r=false)→∃ k'' < k',∃ t:Nat,k''=u.rs.xs.length - t∧t≤u.rs.xs.length∧[i64 parts,ptr H.next 0,i64 ((t:Int))]=[i64 parts,ptr H.next 0,i64 t]∧Keeps [] H1 (H2.push (some (.cells true [i64 r.part,i64 r.level])))∧∀ m,m < t→zvn parts (u.rs.xs.getD m default)=false:=fun q=>⟨u.rs.xs.length - (t + 1),by omega,t + 1,rfl,by omega,rfl,k3,hgood q⟩
   by_cases b1:r.part < 0
   ·rw[hbad (by simp[zvn,b1])] at hQ
    (try simp (maxSteps:=999999) (disch:=try exact ZD) only[ZA,zo,zn,zm,zk,zi,zj,zg,ze,ziw,zk2,g2,hlen,a1,r1,zbbl])
    exact hQ _ (k1.trans k3 (by simp))
   by_cases b2:r.part≥parts
   ·rw[hbad (by simp[zvn,b2])] at hQ
    (try simp (maxSteps:=999999) (disch:=try exact ZD) only[ZA,zo,zn,zm,zk,zi,zj,zg,ze,ziw,zk2,g2,hlen,a1,r1,zbbl])
    exact hQ _ (k1.trans k3 (by simp))
   by_cases b3:r.level < 1
   ·rw[hbad (by simp[zvn,b3])] at hQ
    (try simp (maxSteps:=999999) (disch:=try exact ZD) only[ZA,zo,zn,zm,zk,zi,zj,zg,ze,ziw,zk2,g2,hlen,a1,r1,zbbl])
    exact hQ _ (k1.trans k3 (by simp))
   by_cases b4:r.level > 4
   ·rw[hbad (by simp[zvn,b4])] at hQ
    (try simp (maxSteps:=999999) (disch:=try exact ZD) only[ZA,zo,zn,zm,zk,zi,zj,zg,ze,ziw,zk2,g2,hlen,a1,r1,zbbl])
    exact hQ _ (k1.trans k3 (by simp))
   have hbf:zvn parts r=false:=by unfold zvn;exact decide_eq_false (by omega)
   (try simp (maxSteps:=999999) (disch:=try exact ZD) only[ZA,zo,zn,zm,zk,zi,zj,zg,ze,ziw,zk2,g2,hlen,a1,r1,zbbl,z90])
   exact⟨u.rs.xs.length - (t + 1),by omega,t + 1,rfl,by omega,by push_cast;rfl,k3,hgood hbf⟩
  have htl:t=u.rs.xs.length:=by omega
  subst htl
  have hany:u.rs.xs.any (zvn parts)=false:=by
   rw[Bool.eq_false_iff]
   intro q
   obtain⟨x,hx,hbx⟩:=List.any_eq_true.1 q
   obtain⟨m,hm',rfl⟩:=List.getElem_of_mem hx
   have:=hb m hm'
   rw[List.getD_eq_getElem?_getD,List.getElem?_eq_getElem hm'] at this
   have this':zvn parts u.rs.xs[m]=false:=this
   rw[this'] at hbx;cases hbx
  have hwr:zok u.rs.xs parts=if (u.rs.xs.map (·.part)).Nodup then 0 else 240:=by unfold zok;rw[if_neg (by simp[hany])]
  rw[hwr] at hQ
  clear hb hwr hany
  (try simp (maxSteps:=999999) (disch:=try exact ZD) only[ZB,ziw,g2,hlen,z61])
  refine zd6 (Inv:=fun k vs H'=>∃ t:Nat,k=u.rs.xs.length - t∧t≤u.rs.xs.length∧vs=[ptr H.next 0,i64 t]∧H'=H2∧∀ m j,m < t→j < m→(u.rs.xs.getD j default).part≠(u.rs.xs.getD m default).part) (n:=u.rs.xs.length) (by unfold zbm;omega)
   ⟨0,by omega,by omega,rfl,rfl,by omega⟩ ?_
  rintro k'' vs'' H3 ⟨t,hk'',ht',rfl,he,hd⟩
  rw[he];clear he H3
  by_cases hlt3:t < u.rs.xs.length
  case neg =>
   rw[if_pos (zbgx.2 fun m j hj hm'=>hd m j (by omega) hj)] at hQ
   (try simp (maxSteps:=999999) (disch:=try exact ZD) only[ZB,zxd,g2,hlen,z60])
   exact hQ _ k02
  (try simp (maxSteps:=999999) (disch:=try exact ZD) only[ZB,zxd,g2,hlen,z6z])
  refine zd6 (Inv:=fun k vs H'=>∃ j:Nat,k=t - j∧j≤t∧vs=[ptr H.next 0,i64 t,i64 j]∧H'=H2∧∀ j',j' < j→(u.rs.xs.getD j' default).part≠(u.rs.xs.getD t default).part) (n:=t) (by unfold zbm;omega)
   ⟨0,by omega,by omega,rfl,rfl,by omega⟩ ?_
  rintro k3 vs3 H3 ⟨j',hk3,hj',rfl,he,hd2⟩
  rw[he];clear he H3
  by_cases hlt4:j' < t
  case neg =>
   have:j'=t:=by omega
   subst this
   (try simp (maxSteps:=999999) (disch:=try exact ZD) only[ZB,zto,z92])
   refine⟨u.rs.xs.length - (j' + 1),by omega,j' + 1,rfl,by omega,by push_cast;rfl,fun m j hm' hj=>?_⟩
   rcases Nat.lt_or_eq_of_le (Nat.lt_succ_iff.1 hm') with z | rfl
   ·exact hd m j z hj
   ·exact hd2 j hj
  have a1:=hrs2.addr' (n:=2) rfl (k := .i64) (i:=(j':Int)) (by omega) (by omega)
  have a2:=hrs2.addr' (n:=2) rfl (k := .i64) (i:=(t:Int)) (by omega) (by omega)
  have c1:=hrs2.cell' (n:=2) rfl (i:=j') (off:=0) (by omega) (by omega) default
  have c2:=hrs2.cell' (n:=2) rfl (i:=t) (off:=0) (by omega) (by omega) default
  rw[Int.toNat_natCast] at a1 a2
  rw[zbd,Nat.add_zero] at c1 c2
  have c1':zes (H2.get (slB u.rs.v)) (slO u.rs.v + j' * 2)=some (i64 (u.rs.xs.getD j' default).part):=c1
  have c2':zes (H2.get (slB u.rs.v)) (slO u.rs.v + t * 2)=some (i64 (u.rs.xs.getD t default).part):=c2
  by_cases hx:(u.rs.xs.getD j' default).part=(u.rs.xs.getD t default).part
  ·rw[if_neg (fun q=>zbgx.1 q t j' hlt4 hlt3 hx)] at hQ
   (try simp (maxSteps:=999999) (disch:=try exact ZD) only[ZB,zto,zz0,g2,a1,a2,c1',c2',hx])
   exact hQ _ k02
  ·(try simp (maxSteps:=999999) (disch:=try exact ZD) only[ZB,zto,zz0,g2,a1,a2,c1',c2',hx,z91])
   refine⟨t - (j' + 1),by omega,j' + 1,rfl,by omega,by push_cast;rfl,fun m hm'=>?_⟩
   rcases Nat.lt_or_eq_of_le (Nat.lt_succ_iff.1 hm') with z | rfl
   ·exact hd2 m z
   ·exact hx
theorem zbpd {l:List Us} {parts:Int} {i:Nat} (hi:i < l.length):zen parts (l.take i) (l.drop i)=if zbm6 l i parts=0 then zen parts (l.take (i + 1)) (l.drop (i + 1)) else ((i:Int),zbm6 l i parts):=by
 have hd:l.drop i=l.getD i default :: l.drop (i + 1):=by
  rw[List.drop_eq_getElem_cons hi,List.getD_eq_getElem?_getD,List.getElem?_eq_getElem hi];rfl
 have ht:l.take i ++ [l.getD i default]=l.take (i + 1):=by
  rw[List.take_succ,List.getD_eq_getElem?_getD,List.getElem?_eq_getElem hi];rfl
 have hl:(l.take i).length=i:=by rw[List.length_take];omega
 rw[hd]
 unfold zbm6
 rw[zen,hl,ht]
 by_cases h1:ze3 (l.getD i default)=true
 ·rw[if_pos h1,if_pos h1]
  by_cases h2:(zyt (l.take i) (l.getD i default).name).isSome=true
  ·rw[if_pos h2,if_pos h2,if_neg (by decide)]
  ·rw[if_neg h2,if_neg h2]
 ·rw[if_neg h1,if_neg h1,if_neg (by decide)]
theorem zbyc {H:Heap} {v:V} {l:List Us} (h:Users H v l) (parts:Int) (Q:V→Heap→Prop) (hQ:∀ H',Keeps [] H H'→Q (.tuple #[i64 (zik l parts).1,i64 (zik l parts).2]) H'):wp (ztp [v,i64 parts]) Q H:=by
 show wp (zk3 v (i64 parts)) Q H
 have hlen:=h.out.len
 unfold zik at hQ
 by_cases b1:parts < 1
 ·rw[if_pos (.inl b1)] at hQ
  (try simp (maxSteps:=999999) (disch:=try exact ZD) only[ZB,zk3])
  exact hQ _ (Keeps.refl _ _)
 by_cases b2:parts > 8
 ·rw[if_pos (.inr b2)] at hQ
  (try simp (maxSteps:=999999) (disch:=try exact ZD) only[ZB,zk3])
  exact hQ _ (Keeps.refl _ _)
 rw[if_neg (by omega)] at hQ
 by_cases b3:l.length > 8
 ·rw[if_pos b3] at hQ
  (try simp (maxSteps:=999999) (disch:=try exact ZD) only[ZB,zk3,zxf,hlen])
  exact hQ _ (Keeps.refl _ _)
 rw[if_neg b3] at hQ
 (try simp (maxSteps:=999999) (disch:=try exact ZD) only[ZB,zk3,zxf,hlen,z67])
 refine zd6 (Inv:=fun k vs H'=>∃ i:Nat,k=l.length - i∧i≤l.length∧vs=[v,i64 parts,i64 i]∧Keeps [] H H'∧zen parts [] l=zen parts (l.take i) (l.drop i)) (n:=l.length) (by unfold zbm;omega)
  ⟨0,by omega,by omega,rfl,Keeps.refl _ _,rfl⟩ ?_
 rintro k vs H1 ⟨i,hk,hi,rfl,k1,hc⟩
 by_cases hlt:i < l.length
 case neg =>
  have e0:zen parts [] l=(0,0):=by rw[hc,List.drop_of_length_le (by omega)];rfl
  rw[e0] at hQ
  (try simp (maxSteps:=999999) (disch:=try exact ZD) only[ZB,zxe,hlen,z66])
  exact hQ _ k1
 rw[zbpd hlt] at hc
 (try simp (maxSteps:=999999) (disch:=try exact ZD) only[ZB,zxe,hlen,z65])
 refine zb1b (h.keep0 k1) (by omega) hlt parts _ fun H2 k2=>?_
 have k02:=k1.trans k2 (by simp)
 by_cases he:zbm6 l i parts=0
 ·rw[if_pos he] at hc
  (try simp (maxSteps:=999999) (disch:=try exact ZD) only[ZB,z64])
  exact⟨l.length - (i + 1),by omega,i + 1,rfl,by omega,by push_cast;rfl,k02,hc⟩
 ·rw[if_neg he] at hc
  rw[hc] at hQ
  (try simp (maxSteps:=999999) (disch:=try exact ZD) only[ZB])
  exact hQ _ k02
theorem zbyd {H:Heap} {v:V} {l:List Us} (h:Users H v l) (parts idle:Int) (Q:V→Heap→Prop)
  (hbad1:(zik l parts).2≠0→∀ H',Keeps [] H H'→Q (.tuple #[.pointer none,i64 (zik l parts).2]) H')
  (hbad2:(zik l parts).2=0→idle < 1∨idle > 100000→∀ H',Keeps [] H H'→Q (.tuple #[.pointer none,i64 1]) H')
  (hQ:(zik l parts).2=0→¬ (idle < 1∨idle > 100000)→∀ p H',Keeps [] H H'→Q (.tuple #[ptr p 0,i64 0]) H'):wp (zyp [v,i64 parts,i64 idle]) Q H:=by
 show wp (z68 v (i64 parts) (i64 idle)) Q H
 unfold z68
 rw[z7,z7,z7]
 refine zbyc h parts _ fun H1 k1=>?_
 by_cases he:(zik l parts).2=0
 case neg =>
  have q:=hbad1 he _ k1
  (try simp (maxSteps:=999999) (disch:=try exact ZD) only[ZB])
  exact q
 rw[he]
 by_cases hi:idle < 1∨idle > 100000
 ·have q:=hbad2 he hi _ k1
  by_cases h1:idle < 1
  ·(try simp (maxSteps:=999999) (disch:=try exact ZD) only[ZB,zvl])
   exact q
  ·(try simp (maxSteps:=999999) (disch:=try exact ZD) only[ZB,zvl])
   exact q
 have hu:=h.out.isOne
 have hb:build [Value.slice none 0 0,Value.int .i64 0,Value.int .i64 0,Value.slice none 0 0,Value.slice none 0 0,Value.int .i64 0,(Value.int .i64 0:V)] [(0,1,v),(1,1,i64 idle)]=some (.agg (#[v,i64 idle,i64 0,.slice none 0 0,.slice none 0 0,i64 0,i64 0]:Array V)):=by
  rw[zm (by rfl),ze hu (by decide),ze rfl (by rw[List.length_set];decide),zb1]
  rfl
 have hone:([v,i64 idle,i64 0,.slice none 0 0,.slice none 0 0,i64 0,i64 0]:List V).all Value.isOne=true:=by simp[hu]
 (try simp (maxSteps:=999999) (disch:=try exact ZD) only[ZA,zbz,zo,zn,zk,zi,zj,zg,ze,zvl,zbdr,hb])
 first | (refine (zb0 hone).mpr ?_) | skip
 (try simp (maxSteps:=999999) (disch:=try exact ZD) only[ZB])
 exact hQ he hi _ _ (zbq k1)
end Go.AM.Cap
