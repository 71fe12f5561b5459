import Derived.Test.YtjchglndancedaaGreatDoorCgE
import Derived.Test.YtjchglndancedaaGreatDoorAmOpenF
set_option linter.all false
/- conf, the document: lines of ports -/
set_option maxHeartbeats 16000000
namespace Go.AM.Cap
open Go.AM Go.Proofs
variable {H0 H:Heap} {R:Nat} {v:RV} {st:RSt} {L:List Thing}
theorem zbdp {wv:V} {ws:List ByteArray} {p:Nat} {kd ty a b c:Int} (ok:Bool) (s1:Hp H0 H (cel p [i64 kd,i64 a,i64 b,i64 ty,i64 c] :: v.things R st (view wv ws :: L))) (hu:v.uns.map Un.p=st.sy.uns) (hz:v.uz.map Us.p=st.us) (hs:Sm st 1000000) (Q:V→Heap→Prop)
  (hok:∀ v' H',ReadAt H0 H' R v' (addQ st ⟨kd,a,b,ty,c⟩) (view wv ws :: L)→Q (.bool ok) H'):wp (zm2 [ptr R 0,ptr p 0,.bool ok]) (fun o H'=>wp (zbg o fun vs=>ret (zbe [zc vs 0])) Q H') H:=by
 have r1:ReadAt H0 H R v st (view wv ws :: L):=⟨s1.tail,hu,hz⟩
 have g:=r1.get
 have hone:=r1.hp.own (i:=3) rfl
 have d1:=fun Q=>z7 (n:=5) (Q:=Q) (s1.get (i:=0) rfl) rfl
 unfold RV.cells at g
 (try simp(maxSteps:=1000000)(disch:=first|omega|(simp only[Z3];omega)|(simp;done)|assumption|decide|(apply not_not_intro;assumption))only[ZA,zp,zo,zm,zf,zg,zh,zd,zm2,g,d1])
 have hf:zbn (rep 1 [Value.int .i64 0,Value.int .i64 0,Value.int .i64 0,Value.int .i64 0,Value.int .i64 0]) [(0,5,.agg #[i64 kd,i64 a,i64 b,i64 ty,i64 c])]=some (zbm ([⟨kd,a,b,ty,c⟩]:List Port)):=by
  show zbn _ [(0,5,.agg ([i64 kd,i64 a,i64 b,i64 ty,i64 c]:List V).toArray)]=_
  rw[zi (n:=5) rfl rfl (by decide),zba]
  rfl
 refine zgl (α:=Port) (n:=5) (ys:=[⟨kd,a,b,ty,c⟩]) r1.hp (i:=3) rfl rfl (by decide) hf rfl (by have:=hs.prs;omega) (by decide) fun w2 H2 H3 k2 s2=>?_
 have g1:=k2.get r1.get (by simp)
 have ck:zgm (zdk (H2.get R) 2) v.qv=true:=by rw[g1];exact zen hone.sl
 have g2:=s2.get (i:=0) rfl
 unfold RV.cells at g2
 have n2:=Heap.get_lt g2
 have ow:=(s2.own (i:=3) rfl).isOne
 (try simp(maxSteps:=1000000)(disch:=first|omega|(simp only[Z3];omega)|(simp;done)|assumption|decide|(apply not_not_intro;assumption))only[ZB,g2])
 simp only[ow,true_and]
 have s3:=s2.set (i:=0) rfl ({ v with qv:=w2 }.cells (addQ st ⟨kd,a,b,ty,c⟩))
 unfold RV.cells at s3
 have r3:ReadAt H0 _ R { v with qv:=w2 } (addQ st ⟨kd,a,b,ty,c⟩) (view wv ws :: L):=⟨s3,r1.uns,r1.us⟩
 (try simp(maxSteps:=1000000)(disch:=first|omega|(simp only[Z3];omega)|(simp;done)|assumption|decide|(apply not_not_intro;assumption))only[ZB,ck])
 exact hok _ _ r3
theorem zbs6 (a:List ByteArray) (b:ByteArray) (n:Nat):zds (a ++ [b]) (n + 1)=match zds a n with
  | some l=>if (zhm b).2=true then some (l ++ [(zhm b).1]) else none
  | none=>none:=by
 unfold zds
 rw[List.all_append,List.length_append,List.map_append]
 simp only[List.all_cons,List.all_nil,Bool.and_true,List.length_cons,List.length_nil,List.map_cons,List.map_nil,Nat.zero_add,Nat.add_right_cancel_iff,Bool.and_eq_true]
 by_cases h:a.all (fun w=>(zhm w).2)=true∧a.length=n
 ·rw[if_pos h]
  simp only
  by_cases h2:(zhm b).2=true
  ·rw[if_pos h2,if_pos ⟨⟨h.1,h2⟩,h.2⟩]
  ·rw[if_neg h2,if_neg (fun q=>h2 q.1.2)]
 ·rw[if_neg h,if_neg (fun q=>h ⟨q.1.1,q.2⟩)]
theorem zbs7 {wv:V} {ws:List ByteArray} {p:Nat} (q:Bool) (kd:Int) (want many:Nat) (hkd:kd=if q then 2 else 1) (hwant:want=if q then 5 else 4) (hmany:many=if q then 3 else 2) (hq:decide (z8 ws 0=zh0)=q) (hb:ws.length≤900000) (s1:Hp H0 H (cel p [i64 kd,i64 0,i64 0,i64 0,i64 0] :: v.things R st (view wv ws :: L))) (hu:v.uns.map Un.p=st.sy.uns) (hz:v.uz.map Us.p=st.us) (hs:Sm st 1000000) (Q:V→Heap→Prop)
  (hok:∀ st',zpu st ws=some st'→∀ v' H',ReadAt H0 H' R v' st' (view wv ws :: L)→Q (.bool true) H') (hbad:zpu st ws=none→∀ H',Hp H0 H' (view wv ws :: L)→Q (.bool false) H') :
  wp (zik [ptr R 0,wv,ptr p 0]) (fun o H'=>wp (zbg o fun vs=>ret (zbe [zc vs 0])) Q H') H:=by
 have r1:ReadAt H0 H R v st (view wv ws :: L):=⟨s1.tail,hu,hz⟩
 have hlen:=r1.words.len
 have g1:=s1.get (i:=0) rfl
 have hdo:zpu st ws=if ws.length=want∧zcg (z8 ws 3)≠0 then match zds ((ws.drop 1).take 2 ++ ws.drop 4) many with
  | some l=>some (addQ st ⟨kd,l.getD 0 0,l.getD 1 0,zcg (z8 ws 3),if q then l.getD 2 0 else 0⟩)
  | none=>none
 else none:=by
  unfold zpu
  rw[hq,hkd,hwant,hmany]
  cases q <;> rfl
 have hkw:kd + 3=want:=by cases q <;> simp at hkd hwant <;> omega
 have hkd2:kd=1∨kd=2:=by cases q <;> simp at hkd <;> omega
 have ea:zr .add (Value.int .i64 3) (i64 kd)=some (i64 (want:Int)):=by
  show some (Value.int .i64 (IntKind.wrap .i64 (3 + kd)))=_
  rw[show 3 + kd=(want:Int) by omega,i64_in (by omega) (by omega)]
 have hw45:4≤want∧want≤5∧want=many + 2:=by cases q <;> simp at hwant hmany <;> omega
 by_cases c1:ws.length=want
 case neg =>
  rw[if_neg (fun r=>c1 r.1)] at hdo
  have e1:decide ((ws.length:Int)≠(want:Int))=true:=decide_eq_true (by omega)
  (try simp(maxSteps:=1000000)(disch:=first|omega|(simp only[Z3];omega)|(simp;done)|assumption|decide|(apply not_not_intro;assumption))only[ZB,zik,hlen,g1,ea,e1])
  exact hbad hdo _ r1.rest
 have e1:decide ((ws.length:Int)≠(want:Int))=false:=decide_eq_false (by omega)
 obtain⟨u,hu1,hus⟩:=zbil (α:=ByteArray) (n:=1) rfl r1.words (j:=3) (by omega)
 have hu':zgs 1 wv none (some (Value.int .i64 3))=some u:=hu1
 (try simp(maxSteps:=1000000)(disch:=first|omega|(simp only[Z3];omega)|(simp;done)|assumption|decide|(apply not_not_intro;assumption))only[ZB,zik,hlen,g1,ea,e1,zt3,hu'])
 have hd:(ws.take 3).drop 1=(ws.drop 1).take 2:=by rw[List.drop_take]
 refine zbf3 hus (by rw[List.length_take];omega) 1 2 (by rw[List.length_take];omega) (by omega) _ (fun l hl w H1 k1 o1 f1=>?_) fun hn w H1 k1=>?_
 case refine_2 =>
  rw[hd] at hn
  have e:zpu st ws=none:=by
   rw[hdo]
   by_cases h2:ws.length=want∧zcg (z8 ws 3)≠0
   ·rw[if_pos h2]
    cases q with
    | false =>
     simp at hwant hmany
     have h4:ws.drop 4=[]:=List.drop_of_length_le (by omega)
     rw[h4,List.append_nil,hmany,hn]
    | true =>
     simp at hwant hmany
     have h4:ws.drop 4=[z8 ws 4]:=by
      rw[zbv2 ws 4 (by omega),List.drop_of_length_le (by omega)]
     rw[h4,hmany,zbs6,hn]
   ·rw[if_neg h2]
  (try simp(maxSteps:=1000000)(disch:=first|omega|(simp only[Z3];omega)|(simp;done)|assumption|decide|(apply not_not_intro;assumption))only[ZB,zbkv])
  exact hbad e _ (r1.keep0 k1).rest
 have hll:=zlc hl
 rw[hd] at hl
 have r2:=r1.keep0 k1
 obtain⟨a3,b3⟩:=wd r2.words (i:=3) (n:=3) (by omega) rfl
 (try simp(maxSteps:=1000000)(disch:=first|omega|(simp only[Z3];omega)|(simp;done)|assumption|decide|(apply not_not_intro;assumption))only[ZB,a3,b3])
 refine zbf4 _ fun t1 H2 k2 t1s=>?_
 have r3:=r2.keep0 k2
 have s3:=(s1.keep0 k1).keep0 k2
 obtain⟨_,b3'⟩:=wd r3.words (i:=3) (n:=3) (by omega) rfl
 (try simp(maxSteps:=1000000)(disch:=first|omega|(simp only[Z3];omega)|(simp;done)|assumption|decide|(apply not_not_intro;assumption))only[ZB])
 refine z2n t1s (by decide) (z8 ws 3) _ ?_
 by_cases c2:zcg (z8 ws 3)=0
 ·rw[if_neg (fun r=>r.2 c2)] at hdo
  have ed:=zb0n c2
  (try simp(maxSteps:=1000000)(disch:=first|omega|(simp only[Z3];omega)|(simp;done)|assumption|decide|(apply not_not_intro;assumption))only[ZB,ed,b3'])
  exact hbad hdo _ r3.rest
 obtain⟨ed,ef⟩:=zbv6 c2
 rw[ed]
 rw[if_pos ⟨c1,c2⟩] at hdo
 have sl4:=o1.sl.keep0 k2
 obtain⟨x0,y0⟩:=vd0 sl4 (by omega)
 obtain⟨x1,y1⟩:=vd sl4 (i:=1) (n:=1) (by omega) rfl
 have g3:=s3.get (i:=0) rfl
 have n3:=Heap.get_lt g3
 have hpb:slB w≠p:=by
  intro e
  rcases o1 with⟨rfl,hl0⟩ | ⟨b,rfl,hb⟩
  ·rw[hl0] at hll;simp at hll
  ·have hf:=f1 b (by simp)
   have hp2:=s1.ltAt (i:=0) rfl p (by simp[cel])
   have:slB (slc b 0 (Flat.size Int) l.length l.length)=b:=rfl
   omega
 have y1':∀ x,zdk ((H2.set p x).get (slB w)) (slO w + 1)=some (i64 (l.getD 1 0)):=fun x=>by rw[Heap.get_set_ne _ _ _ hpb];exact y1
 have s4:=s3.set (i:=0) rfl [i64 kd,i64 (l.getD 0 0),i64 (l.getD 1 0),i64 0,i64 0]
 simp only[List.set_cons_zero] at s4
 have r4:ReadAt H0 _ R v st (view wv ws :: L):=⟨s4.tail,hu,hz⟩
 obtain⟨_,b4⟩:=wd r4.words (i:=3) (n:=3) (by omega) rfl
 (try simp(maxSteps:=1000000)(disch:=first|omega|(simp only[Z3];omega)|(simp;done)|assumption|decide|(apply not_not_intro;assumption))only[ZB,ef,b3',zt2,x0,y0,x1,y1,y1',g3,a3,b4])
 generalize H2.set p _=H3 at *
 refine zbf4 _ fun t2 H4 k4 t2s=>?_
 have r5:=r4.keep0 k4
 have s5:=s4.keep0 k4
 obtain⟨_,b5⟩:=wd r5.words (i:=3) (n:=3) (by omega) rfl
 (try simp(maxSteps:=1000000)(disch:=first|omega|(simp only[Z3];omega)|(simp;done)|assumption|decide|(apply not_not_intro;assumption))only[ZB])
 refine z2n t2s (by decide) (z8 ws 3) _ ?_
 rw[ed]
 have g5:=s5.get (i:=0) rfl
 have n5:=Heap.get_lt g5
 have s6:=s5.set (i:=0) rfl [i64 kd,i64 (l.getD 0 0),i64 (l.getD 1 0),i64 (zcg (z8 ws 3)),i64 0]
 simp only[List.set_cons_zero] at s6
 have r6:ReadAt H0 _ R v st (view wv ws :: L):=⟨s6.tail,hu,hz⟩
 cases q with
 | false =>
  simp at hwant hmany hkd
  subst hkd
  have h4:ws.drop 4=[]:=List.drop_of_length_le (by omega)
  rw[h4,List.append_nil,hmany,hl] at hdo
  (try simp(maxSteps:=1000000)(disch:=first|omega|(simp only[Z3];omega)|(simp;done)|assumption|decide|(apply not_not_intro;assumption))only[ZB,g5,b5])
  exact zbdp true s6 hu hz hs Q fun v' H' r=>hok _ hdo v' H' r
 | true =>
  simp at hwant hmany hkd
  subst hkd
  have h4:ws.drop 4=[z8 ws 4]:=by rw[zbv2 ws 4 (by omega),List.drop_of_length_le (by omega)]
  rw[h4,hmany,zbs6,hl] at hdo
  obtain⟨a4,b6⟩:=wd r6.words (i:=4) (n:=4) (by omega) rfl
  (try simp(maxSteps:=1000000)(disch:=first|omega|(simp only[Z3];omega)|(simp;done)|assumption|decide|(apply not_not_intro;assumption))only[ZB,g5,b5,a4,b6])
  refine zbku (z8 ws 4) _ ?_
  have g6:=s6.get (i:=0) rfl
  have n6:=Heap.get_lt g6
  have s7:=s6.set (i:=0) rfl [i64 2,i64 (l.getD 0 0),i64 (l.getD 1 0),i64 (zcg (z8 ws 3)),i64 (zhm (z8 ws 4)).1]
  simp only[List.set_cons_zero,Heap.set_set] at s7
  generalize hnum:zhm (z8 ws 4)=nm at *
  obtain⟨n,okb⟩:=nm
  (try simp(maxSteps:=1000000)(disch:=first|omega|(simp only[Z3];omega)|(simp;done)|assumption|decide|(apply not_not_intro;assumption))only[ZB,g6])
  cases okb with
  | false =>
   simp only at hdo
   rw[if_neg (by simp)] at hdo
   exact zbdp false s7 hu hz hs Q fun v' H' r=>hbad hdo _ r.rest
  | true =>
   simp only[if_true] at hdo
   match l,hll with
   | [x,y],_=>exact zbdp true s7 hu hz hs Q fun v' H' r=>hok _ hdo v' H' r
theorem zbs8 {wv:V} {ws:List ByteArray} (h:ReadAt H0 H R v st (view wv ws :: L)) (hs:Sm st 1000000) (hw:1≤ws.length) (hb:ws.length≤900000):zfp H0 H R (view wv ws :: L) (zpu st ws) (zje [ptr R 0,wv]):=by
 intro Q hok hbad
 show wp (zjd (ptr R 0) wv) Q H
 obtain⟨a0,b0⟩:=wd0 h.words (by omega)
 have s1:Hp H0 (H.push (some (.cells true [i64 1,i64 0,i64 0,i64 0,i64 0]))) (cel H.next [i64 1,i64 0,i64 0,i64 0,i64 0] :: v.things R st (view wv ws :: L)):=h.hp.newc _
 have k1:Keeps [] H (H.push (some (.cells true [i64 1,i64 0,i64 0,i64 0,i64 0]))):=Keeps.push _ _ _
 have b0':=(wd0 (h.words.keep0 k1) (by omega)).2
 cases hq:decide (z8 ws 0=zh0) with
 | false =>
  have e1:decide (z8 ws 0=(⟨#[113,117,101,117,101]⟩:ByteArray))=false:=hq
  (try simp(maxSteps:=1000000)(disch:=first|omega|(simp only[Z3];omega)|(simp;done)|assumption|decide|(apply not_not_intro;assumption))only[ZB,zjd,a0,b0',e1])
  exact zbs7 false 1 4 2 rfl rfl rfl hq hb s1 h.uns h.us hs Q hok hbad
 | true =>
  have e1:decide (z8 ws 0=(⟨#[113,117,101,117,101]⟩:ByteArray))=true:=hq
  (try simp(maxSteps:=1000000)(disch:=first|omega|(simp only[Z3];omega)|(simp;done)|assumption|decide|(apply not_not_intro;assumption))only[ZB,zjd,a0,b0',e1])
  have s2:=s1.set (i:=0) rfl [i64 2,i64 0,i64 0,i64 0,i64 0]
  simp only[List.set_cons_zero] at s2
  rw[Heap.set_push_eq rfl] at s2
  exact zbs7 true 2 5 3 rfl rfl rfl hq hb s2 h.uns h.us hs Q hok hbad
end Go.AM.Cap
