import Derived.Test.YtjchglndancedaaGreatDoorCgF
import Derived.Test.YtjchglndancedaaGreatDoorAmOpenF
set_option linter.all false
/- conf, the document: lines of binds (printed by gencg2.py) -/
set_option maxHeartbeats 16000000
namespace Go.AM.Cap
open Go.AM Go.Proofs
variable {H0 H:Heap} {R:Nat} {v:RV} {st:RSt} {L:List Thing}
theorem zb0p {wv:V} {ws:List ByteArray} {p k:Nat} {kd n:Int} (ok:Bool) (s1:Hp H0 H (cel p [i64 kd,i64 n] :: v.things R st (view wv ws :: L))) (hu:v.uns.map Un.p=st.sy.uns) (hz:v.uz.map Us.p=st.us) (hs:Sm st 1000000) (hk:v.uns.length=k + 1) (hw:1≤ws.length) (Q:V→Heap→Prop)
  (hok:∀ v' H',ReadAt H0 H' R v' (addB st (decide (z8 ws 0=zr5)) ⟨kd,n⟩) (view wv ws :: L)→Q (.bool ok) H'):wp (zil [ptr R 0,wv,i64 k,.bool ok,ptr p 0]) (fun o H'=>wp (zbg o fun vs=>ret (zbe [zc vs 0])) Q H') H:=by
 have hkl:k < v.uns.length:=by omega
 have hul:st.sy.uns.length=v.uns.length:=by rw[← hu,List.length_map]
 have hkb:=hs.uns
 have r1:ReadAt H0 H R v st (view wv ws :: L):=⟨s1.tail,hu,hz⟩
 have g:=r1.get
 unfold RV.cells at g
 have o5:=s1.own (i:=6) rfl
 have a5:=o5.sl.addr' (n:=2) rfl (k := .i64) (i:=(k:Int)) (by omega) (by omega)
 rw[Int.toNat_natCast] at a5
 have d5:=fun Q=>o5.sl.ldn' (Q:=Q) (n:=2) rfl hkl default
 simp only[zbur] at d5
 have oi:=(s1.own (i:=2 * k + 9) (zn3 hkl).1).isOne
 have oo:=(s1.own (i:=2 * k + 1 + 9) (zn3 hkl).2).isOne
 have hlast:zbni st.sy.uns=(v.uns.getD k default).p:=by
  unfold zbni
  rw[hul,hk,Nat.add_sub_cancel,← hu]
  exact zqa _ _ _ _ _ hkl
 have hmem:(v.uns.getD k default).p∈st.sy.uns:=by rw[← hu];exact List.mem_map_of_mem (zci hkl)
 have hinn:=hs.inn _ hmem
 simp only[Un.p] at hinn
 have hf:zbn (rep 1 [Value.int .i64 0,Value.int .i64 0]) [(0,2,.agg #[i64 kd,i64 n])]=some (zbm ([⟨kd,n⟩]:List Bd)):=by
  show zbn _ [(0,2,.agg ([i64 kd,i64 n]:List V).toArray)]=_
  rw[zi (n:=2) rfl rfl (by decide),zba]
  rfl
 have z2:([Value.slice none 0 0,Value.slice none 0 0]:List V).all zgb=true:=by decide
 have hone2:[(v.uns.getD k default).ins.v,(v.uns.getD k default).outs.v].all Value.isOne=true:=by rw[List.all_cons,List.all_cons,oi,oo];rfl
 have gP:(H.push (some (.cells true [Value.slice none 0 0,Value.slice none 0 0]))).get H.next=some (.cells true [Value.slice none 0 0,Value.slice none 0 0]):=Heap.get_push_self _ _
 have wn:∀ Q,wp (newc [Value.slice none 0 0,Value.slice none 0 0]) Q H↔Q (ptr H.next 0) (H.push (some (.cells true [Value.slice none 0 0,Value.slice none 0 0]))):=fun Q=>zo5 z2
 have ws2:=fun Q=>zb3 (n:=2) (Q:=Q) gP rfl rfl hone2
 (try simp(maxSteps:=1000000)(disch:=first|omega|(simp only[Z3];omega)|(simp;done)|assumption|decide|(apply not_not_intro;assumption))only[Z1,zbj,zpz,zo,zbnc,eq_self,true_and,z22,zpc,zby,Heap.get_push_eq,Heap.get_push_lt,Heap.get_set_eq,Heap.get_set_ne',Heap.next_push',Heap.next_set',Heap.set_push_lt,Heap.set_push_eq,Heap.set_set,z1p,z1q,zie,z1u,z1v,zsi,zwl,z1w,z1k,zwi,z1l,z1m,z1n,z1o,List.set_cons_zero,List.set_cons_succ,List.length_cons,List.length_nil,List.drop_succ_cons,List.drop_zero,List.take_succ_cons,List.take_zero,List.nil_append,List.cons_append,splice,zwf,zwg,zsg,zpy,zk4,zwh,z1r,zwj,zbgo,z9k,z1s,zm,zba,zd,zi,Option.map_some,zbeg,zbeh,zsk,zf,zg,zh,zsj,zwm,zwn,zil,g,a5,d5,wn,ws2])
 have s2:Hp H0 (H.push (some (.cells true [(v.uns.getD k default).ins.v,(v.uns.getD k default).outs.v]))) (cel H.next [(v.uns.getD k default).ins.v,(v.uns.getD k default).outs.v] :: cel p [i64 kd,i64 n] :: v.things R st (view wv ws :: L)):=s1.newc _
 generalize H.push (some (.cells true [(v.uns.getD k default).ins.v,(v.uns.getD k default).outs.v]))=H2 at *
 clear gP wn ws2
 generalize H.next=U at *
 have r2:ReadAt H0 H2 R v st (view wv ws :: L):=⟨s2.tail.tail,hu,hz⟩
 obtain⟨a0,b0⟩:=wd0 r2.words (by omega)
 have gU:=s2.get (i:=0) rfl
 have d3:=fun Q=>z7 (n:=2) (Q:=Q) (s2.get (i:=1) rfl) rfl
 by_cases c4:z8 ws 0=zr5
 ·have e6:decide (z8 ws 0=(⟨#[103,101,116]⟩:ByteArray))=true:=decide_eq_true c4
  (try simp(maxSteps:=1000000)(disch:=first|omega|(simp only[Z3];omega)|(simp;done)|assumption|decide|(apply not_not_intro;assumption))only[ZA,zo,zm,zf,zg,zh,zd,a0,b0,e6,gU,d3])
  refine zf5 (α:=Bd) (n:=2) (ys:=[⟨kd,n⟩]) s2 (i:=2 * k + 10) (zn3 hkl).1 rfl (by decide) hf rfl (by omega) (by omega) fun w2 H3 s3=>?_
  have s3':Hp H0 H3 (cel U [(v.uns.getD k default).ins.v,(v.uns.getD k default).outs.v] :: cel p [i64 kd,i64 n] :: cel R (v.cells st) :: own v.pv st.sy.pts :: own v.gv st.sy.grs :: own v.qv st.sy.prs :: own v.wv st.sy.wins :: own v.uv v.uns :: own v.sv v.uz :: own v.ov st.once :: ((unT v.uns ++ (usT v.uz ++ (view wv ws :: L))).set (2 * k) (own w2 ((v.uns.getD k default).ins.xs ++ [⟨kd,n⟩])))):=s3
  have ow2:w2.isOne=true:=(s3'.own (i:=2 * k + 10) (by
   show ((unT v.uns ++ (usT v.uz ++ (view wv ws :: L))).set (2 * k) _)[2 * k]? = _
   rw[List.getElem?_set_self]
   have:=(zn3 (X:=usT v.uz ++ (view wv ws :: L)) hkl).1
   rcases Nat.lt_or_ge (2 * k) (unT v.uns ++ (usT v.uz ++ (view wv ws :: L))).length with q | q
   ·exact q
   ·rw[List.getElem?_eq_none q] at this;cases this)).isOne
  have es:(unT v.uns ++ (usT v.uz ++ (view wv ws :: L))).set (2 * k) (own w2 ((v.uns.getD k default).ins.xs ++ [⟨kd,n⟩]))=_:=(zbfy (⟨w2,(v.uns.getD k default).ins.xs ++ [(⟨kd,n⟩:Bd)],ow2⟩:In Bd) hkl).1
  rw[es] at s3'
  have s4:=s3'.set (i:=0) rfl [w2,(v.uns.getD k default).outs.v]
  simp only[List.set_cons_zero] at s4
  have gU3:=s3'.get (i:=0) rfl
  have nU3:=Heap.get_lt gU3
  (try simp(maxSteps:=1000000)(disch:=first|omega|(simp only[Z3];omega)|(simp;done)|assumption|decide|(apply not_not_intro;assumption))only[ZA,zo,zm,zi,zf,zg,zh,zd,gU3,ow2])
  generalize H3.set U _=H4 at *
  have g4:=s4.get (i:=2) rfl
  unfold RV.cells at g4
  have d4:=fun Q=>z7 (n:=2) (Q:=Q) (s4.get (i:=0) rfl) rfl
  have a4:=(s4.own (i:=7) rfl).sl.addr' (n:=2) rfl (k := .i64) (i:=(k:Int)) (by omega) (by omega)
  rw[Int.toNat_natCast] at a4
  (try simp(maxSteps:=1000000)(disch:=first|omega|(simp only[Z3];omega)|(simp;done)|assumption|decide|(apply not_not_intro;assumption))only[ZA,zo,zm,zi,zf,zg,zh,zd,zm3,g4,d4,a4])
  refine zbzi (α:=Un) (n:=2) (x':=⟨⟨w2,(v.uns.getD k default).ins.xs ++ [⟨kd,n⟩],ow2⟩,(v.uns.getD k default).outs⟩) s4 (idx:=7) (i:=k) rfl rfl hkl fun H6 s6=>?_
  have s6':=s6.tail.tail
  have r6:ReadAt H0 H6 R { v with uns:=v.uns.set k ⟨⟨w2,(v.uns.getD k default).ins.xs ++ [⟨kd,n⟩],ow2⟩,(v.uns.getD k default).outs⟩ } (addB st (decide (z8 ws 0=zr5)) ⟨kd,n⟩) (view wv ws :: L):=by
   refine⟨s6',?_,hz⟩
   simp only[addB,hlast,List.map_set,hu,decide_eq_true c4,if_true,hul,hk,Nat.add_sub_cancel]
   rfl
  (try simp(maxSteps:=1000000)(disch:=first|omega|(simp only[Z3];omega)|(simp;done)|assumption|decide|(apply not_not_intro;assumption))only[ZB])
  exact hok _ _ r6
 ·have e6:decide (z8 ws 0=(⟨#[103,101,116]⟩:ByteArray))=false:=decide_eq_false c4
  (try simp(maxSteps:=1000000)(disch:=first|omega|(simp only[Z3];omega)|(simp;done)|assumption|decide|(apply not_not_intro;assumption))only[ZA,zo,zm,zf,zg,zh,zd,a0,b0,e6,gU,d3])
  refine zf5 (α:=Bd) (n:=2) (ys:=[⟨kd,n⟩]) s2 (i:=2 * k + 1 + 10) (zn3 hkl).2 rfl (by decide) hf rfl (by omega) (by omega) fun w2 H3 s3=>?_
  have s3':Hp H0 H3 (cel U [(v.uns.getD k default).ins.v,(v.uns.getD k default).outs.v] :: cel p [i64 kd,i64 n] :: cel R (v.cells st) :: own v.pv st.sy.pts :: own v.gv st.sy.grs :: own v.qv st.sy.prs :: own v.wv st.sy.wins :: own v.uv v.uns :: own v.sv v.uz :: own v.ov st.once :: ((unT v.uns ++ (usT v.uz ++ (view wv ws :: L))).set (2 * k + 1) (own w2 ((v.uns.getD k default).outs.xs ++ [⟨kd,n⟩])))):=s3
  have ow2:w2.isOne=true:=(s3'.own (i:=2 * k + 1 + 10) (by
   show ((unT v.uns ++ (usT v.uz ++ (view wv ws :: L))).set (2 * k + 1) _)[2 * k + 1]? = _
   rw[List.getElem?_set_self]
   have:=(zn3 (X:=usT v.uz ++ (view wv ws :: L)) hkl).2
   rcases Nat.lt_or_ge (2 * k + 1) (unT v.uns ++ (usT v.uz ++ (view wv ws :: L))).length with q | q
   ·exact q
   ·rw[List.getElem?_eq_none q] at this;cases this)).isOne
  have es:(unT v.uns ++ (usT v.uz ++ (view wv ws :: L))).set (2 * k + 1) (own w2 ((v.uns.getD k default).outs.xs ++ [⟨kd,n⟩]))=_:=(zbfy (⟨w2,(v.uns.getD k default).outs.xs ++ [(⟨kd,n⟩:Bd)],ow2⟩:In Bd) hkl).2
  rw[es] at s3'
  have s4:=s3'.set (i:=0) rfl [(v.uns.getD k default).ins.v,w2]
  simp only[List.set_cons_zero] at s4
  have gU3:=s3'.get (i:=0) rfl
  have nU3:=Heap.get_lt gU3
  (try simp(maxSteps:=1000000)(disch:=first|omega|(simp only[Z3];omega)|(simp;done)|assumption|decide|(apply not_not_intro;assumption))only[ZA,zo,zm,zi,zf,zg,zh,zd,gU3,ow2])
  generalize H3.set U _=H4 at *
  have g4:=s4.get (i:=2) rfl
  unfold RV.cells at g4
  have d4:=fun Q=>z7 (n:=2) (Q:=Q) (s4.get (i:=0) rfl) rfl
  have a4:=(s4.own (i:=7) rfl).sl.addr' (n:=2) rfl (k := .i64) (i:=(k:Int)) (by omega) (by omega)
  rw[Int.toNat_natCast] at a4
  (try simp(maxSteps:=1000000)(disch:=first|omega|(simp only[Z3];omega)|(simp;done)|assumption|decide|(apply not_not_intro;assumption))only[ZA,zo,zm,zi,zf,zg,zh,zd,zm3,g4,d4,a4])
  refine zbzi (α:=Un) (n:=2) (x':=⟨(v.uns.getD k default).ins,⟨w2,(v.uns.getD k default).outs.xs ++ [⟨kd,n⟩],ow2⟩⟩) s4 (idx:=7) (i:=k) rfl rfl hkl fun H6 s6=>?_
  have s6':=s6.tail.tail
  have r6:ReadAt H0 H6 R { v with uns:=v.uns.set k ⟨(v.uns.getD k default).ins,⟨w2,(v.uns.getD k default).outs.xs ++ [⟨kd,n⟩],ow2⟩⟩ } (addB st (decide (z8 ws 0=zr5)) ⟨kd,n⟩) (view wv ws :: L):=by
   refine⟨s6',?_,hz⟩
   simp only[addB,hlast,List.map_set,hu,decide_eq_false c4,if_true,hul,hk,Nat.add_sub_cancel]
   rfl
  (try simp(maxSteps:=1000000)(disch:=first|omega|(simp only[Z3];omega)|(simp;done)|assumption|decide|(apply not_not_intro;assumption))only[ZB])
  exact hok _ _ r6
theorem zbs9 {wv:V} {ws:List ByteArray} (h:ReadAt H0 H R v st (view wv ws :: L)) (hs:Sm st 1000000) (hw:1≤ws.length):zfp H0 H R (view wv ws :: L) (zh1 st ws) (zjf [ptr R 0,wv]):=by
 intro Q hok hbad
 show wp (zd2 (ptr R 0) wv) Q H
 have hlen:=h.words.len
 have hul:st.sy.uns.length=v.uns.length:=by rw[← h.uns,List.length_map]
 have hkb:=hs.uns
 have g:=h.get
 have hol:=(h.hp.own (i:=5) rfl).len
 unfold RV.cells at g
 by_cases c2:v.uns.length=0
 ·have e:zh1 st ws=none:=by rw[zh1,if_neg (fun q=>q.2.1 (List.eq_nil_of_length_eq_zero (by omega)))]
  have e2:decide ((v.uns.length:Int) - 1 < 0)=true:=decide_eq_true (by omega)
  (try simp(maxSteps:=1000000)(disch:=first|omega|(simp only[Z3];omega)|(simp;done)|assumption|decide|(apply not_not_intro;assumption))only[ZB,zd2,g,hol,e2])
  exact hbad e _ h.rest
 have e2:decide ((v.uns.length:Int) - 1 < 0)=false:=decide_eq_false (by omega)
 by_cases c1:ws.length=3
 case neg =>
  have e:zh1 st ws=none:=by rw[zh1,if_neg (fun q=>c1 q.1)]
  have e1:decide ((ws.length:Int)≠3)=true:=decide_eq_true (by omega)
  (try simp(maxSteps:=1000000)(disch:=first|omega|(simp only[Z3];omega)|(simp;done)|assumption|decide|(apply not_not_intro;assumption))only[ZB,zd2,g,hol,e2,hlen,e1])
  exact hbad e _ h.rest
 have e1:decide ((ws.length:Int)≠3)=false:=decide_eq_false (by omega)
 obtain⟨k,hk⟩:∃ k,v.uns.length=k + 1:=⟨v.uns.length - 1,by omega⟩
 have ek:((v.uns.length:Int) - 1)=(k:Int):=by omega
 obtain⟨a1,b1⟩:=wd h.words (i:=1) (n:=1) (by omega) rfl
 obtain⟨a2,b2⟩:=wd h.words (i:=2) (n:=2) (by omega) rfl
 generalize hnum:zhm (z8 ws 2)=nm at *
 obtain⟨n,okb⟩:=nm
 have fin:∀ {kd:Int},zd0 (z8 ws 1)=kd→kd≠0→∀ {p:Nat} {H':Heap},Hp H0 H' (cel p [i64 kd,i64 n] :: v.things R st (view wv ws :: L))→wp (zil [ptr R 0,wv,i64 k,.bool okb,ptr p 0]) (fun o H'=>wp (zbg o fun vs=>ret (zbe [zc vs 0])) Q H') H':=fun {kd} hkd hk0 {p H'} s=>by
  refine zb0p okb s h.uns h.us hs hk (by omega) Q fun v' H3 r3=>?_
  cases okb with
  | false=>exact hbad (by rw[zh1,if_neg (by rw[hnum];exact fun q=>by cases q.2.2.2)]) _ r3.rest
  | true =>
   refine hok _ ?_ _ _ r3
   rw[zh1,if_pos ⟨c1,fun q=>by rw[q] at hul;simp at hul;omega,by rw[hkd];exact hk0,by rw[hnum]⟩,hnum,hkd]
 by_cases c3:z8 ws 1=zux
 ·have hkd:zd0 (z8 ws 1)=1:=by rw[zd0,if_pos c3]
  have f1:decide (z8 ws 1≠(⟨#[112,111,105,110,116]⟩:ByteArray))=false:=decide_eq_false (fun q=>q c3)
  have f2:decide (z8 ws 1=(⟨#[112,111,114,116]⟩:ByteArray))=false:=by rw[c3];decide
  (try simp(maxSteps:=1000000)(disch:=first|omega|(simp only[Z3];omega)|(simp;done)|assumption|decide|(apply not_not_intro;assumption))only[ZB,zd2,g,hol,e2,hlen,e1,a1,b1,f1,zm4,a2,b2])
  refine zbku (z8 ws 2) _ ?_
  rw[hnum,ek]
  have s1:Hp H0 (H.push (some (.cells true [i64 1,i64 n]))) (cel H.next [i64 1,i64 n] :: v.things R st (view wv ws :: L)):=h.hp.newc _
  have r1:ReadAt H0 _ R v st (view wv ws :: L):=⟨s1.tail,h.uns,h.us⟩
  obtain⟨_,b3⟩:=wd r1.words (i:=1) (n:=1) (by omega) rfl
  (try simp(maxSteps:=1000000)(disch:=first|omega|(simp only[Z3];omega)|(simp;done)|assumption|decide|(apply not_not_intro;assumption))only[ZB,a1,b3,f2])
  exact fin hkd (by decide) s1
 have f1:decide (z8 ws 1≠(⟨#[112,111,105,110,116]⟩:ByteArray))=true:=decide_eq_true c3
 by_cases c4:z8 ws 1=z5d
 ·have hkd:zd0 (z8 ws 1)=2:=by rw[zd0,if_neg c3,if_pos c4]
  have f2:decide (z8 ws 1≠(⟨#[112,111,114,116]⟩:ByteArray))=false:=decide_eq_false (fun q=>q c4)
  have f3:decide (z8 ws 1=(⟨#[112,111,114,116]⟩:ByteArray))=true:=decide_eq_true c4
  (try simp(maxSteps:=1000000)(disch:=first|omega|(simp only[Z3];omega)|(simp;done)|assumption|decide|(apply not_not_intro;assumption))only[ZB,zd2,g,hol,e2,hlen,e1,a1,b1,f1,f2,zm4,a2,b2])
  refine zbku (z8 ws 2) _ ?_
  rw[hnum,ek]
  have s1:Hp H0 (H.push (some (.cells true [i64 1,i64 n]))) (cel H.next [i64 1,i64 n] :: v.things R st (view wv ws :: L)):=h.hp.newc _
  have r1:ReadAt H0 _ R v st (view wv ws :: L):=⟨s1.tail,h.uns,h.us⟩
  obtain⟨_,b3⟩:=wd r1.words (i:=1) (n:=1) (by omega) rfl
  have s2:=s1.set (i:=0) rfl [i64 2,i64 n]
  simp only[List.set_cons_zero] at s2
  rw[Heap.set_push_eq rfl] at s2
  (try simp(maxSteps:=1000000)(disch:=first|omega|(simp only[Z3];omega)|(simp;done)|assumption|decide|(apply not_not_intro;assumption))only[ZB,a1,b3,f3])
  exact fin hkd (by decide) s2
 have e:zh1 st ws=none:=by
  rw[zh1,if_neg (fun q=>q.2.2.1 (by rw[zd0,if_neg c3,if_neg c4]))]
 have f2:decide (z8 ws 1≠(⟨#[112,111,114,116]⟩:ByteArray))=true:=decide_eq_true c4
 (try simp(maxSteps:=1000000)(disch:=first|omega|(simp only[Z3];omega)|(simp;done)|assumption|decide|(apply not_not_intro;assumption))only[ZB,zd2,g,hol,e2,hlen,e1,a1,b1,f1,f2])
 exact hbad e _ h.rest
end Go.AM.Cap
