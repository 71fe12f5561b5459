import Derived.Test.YtjchglndancedaaGreatDoorCgQ
import Derived.Test.YtjchglndancedaaGreatDoorAmOpenF
set_option linter.all false
/- conf, the document: the executive's Check, its loops -/
set_option maxHeartbeats 16000000
namespace Go.AM.Cap
open Go.AM Go.Proofs
variable {H:Heap}
theorem zb0y {P:Nat} {x:SyV} {s:Sy} {nu:Nat} (h:SysAt H x s) (g:H.get P=some (.cells true (x.cs s))) (lu:zt x.uv=some (i64 nu)) (Q:Out→Heap→Prop)
  (hbad:(s.grs.any fun y=>decide (y.part≥(nu:Int)))=true→Q (.ret [i64 270]) H) (hok:(s.grs.any fun y=>decide (y.part≥(nu:Int)))=false→Q (.brk 0 [ptr P 0]) H):wp (zbf zbs znd [ptr P 0,i64 0]) Q H:=by
 have hsm:=h.small
 have lg:=h.grs.len
 have c1:(x.cs s)[1]? = some x.gv:=rfl
 have c5:(x.cs s)[5]? = some x.uv:=rfl
 refine zbt s.grs.length (by omega) (fun j vs H'=>vs=[ptr P 0,i64 j]∧H'=H∧((s.grs.take j).any fun y=>decide (y.part≥(nu:Int)))=false) ⟨rfl,rfl,rfl⟩ ?_
 rintro j vs H1 hj ⟨rfl,rfl,ha⟩
 by_cases hlt:j < s.grs.length
 case neg =>
  have:j=s.grs.length:=by omega
  subst this
  rw[List.take_length] at ha
  (try simp(maxSteps:=1000000)(disch:=first|omega|(simp only[Z3];omega)|(simp;done)|assumption|decide|(apply not_not_intro;assumption))only[ZB,znd,g,c1,lg])
  exact hok ha
 have a1:=h.grs.addr' (n:=3) rfl (k := .i64) (i:=(j:Int)) (by omega) (by omega)
 rw[Int.toNat_natCast] at a1
 have s0:=h.grs.cell' (n:=3) rfl (off:=0) hlt (by omega) default
 rw[zbj,Nat.add_zero] at s0
 have t0:(Flat.enc (s.grs.getD j default))[0]? = some (i64 (s.grs.getD j default).part):=rfl
 rw[t0] at s0
 have htk:s.grs.take (j + 1)=s.grs.take j ++ [s.grs.getD j default]:=by
  rw[List.getD_eq_getElem?_getD,List.getElem?_eq_getElem hlt];exact List.take_succ_eq_append_getElem hlt
 cases hd:decide ((s.grs.getD j default).part≥(nu:Int)) with
 | true =>
  (try simp(maxSteps:=1000000)(disch:=first|omega|(simp only[Z3];omega)|(simp;done)|assumption|decide|(apply not_not_intro;assumption))only[ZB,znd,zyg,g,c1,c5,lg,lu,a1,s0,hd])
  exact hbad (List.any_eq_true.2 ⟨_,zci hlt,hd⟩)
 | false =>
  (try simp(maxSteps:=1000000)(disch:=first|omega|(simp only[Z3];omega)|(simp;done)|assumption|decide|(apply not_not_intro;assumption))only[ZB,znd,zyg,z78,g,c1,c5,lg,lu,a1,s0,hd])
  refine⟨hlt,rfl,?_⟩
  rw[htk,List.any_append,ha]
  simpa using hd
theorem zb0z {P:Nat} {x:SyV} {s:Sy} {nu:Nat} (h:SysAt H x s) (g:H.get P=some (.cells true (x.cs s))) (lu:zt x.uv=some (i64 nu)) (Q:Out→Heap→Prop)
  (hbad:(s.prs.any fun y=>decide (y.src≥(nu:Int)∨y.dst≥(nu:Int)))=true→Q (.ret [i64 270]) H) (hok:(s.prs.any fun y=>decide (y.src≥(nu:Int)∨y.dst≥(nu:Int)))=false→Q (.brk 2 [ptr P 0]) H):wp (zbf zbs zjz [ptr P 0,i64 0]) Q H:=by
 have hsm:=h.small
 have lq:=h.prs.len
 have c2:(x.cs s)[2]? = some x.qv:=rfl
 have c5:(x.cs s)[5]? = some x.uv:=rfl
 refine zbt s.prs.length (by omega) (fun j vs H'=>vs=[ptr P 0,i64 j]∧H'=H∧((s.prs.take j).any fun y=>decide (y.src≥(nu:Int)∨y.dst≥(nu:Int)))=false) ⟨rfl,rfl,rfl⟩ ?_
 rintro j vs H1 hj ⟨rfl,rfl,ha⟩
 by_cases hlt:j < s.prs.length
 case neg =>
  have:j=s.prs.length:=by omega
  subst this
  rw[List.take_length] at ha
  (try simp(maxSteps:=1000000)(disch:=first|omega|(simp only[Z3];omega)|(simp;done)|assumption|decide|(apply not_not_intro;assumption))only[ZB,zjz,g,c2,lq])
  exact hok ha
 have a1:=h.prs.addr' (n:=5) rfl (k := .i64) (i:=(j:Int)) (by omega) (by omega)
 rw[Int.toNat_natCast] at a1
 have s1:=h.prs.cell' (n:=5) rfl (off:=1) hlt (by omega) default
 have s2:=h.prs.cell' (n:=5) rfl (off:=2) hlt (by omega) default
 rw[zbj] at s1 s2
 have t1:(Flat.enc (s.prs.getD j default))[1]? = some (i64 (s.prs.getD j default).src):=rfl
 have t2:(Flat.enc (s.prs.getD j default))[2]? = some (i64 (s.prs.getD j default).dst):=rfl
 rw[t1] at s1
 rw[t2] at s2
 have htk:s.prs.take (j + 1)=s.prs.take j ++ [s.prs.getD j default]:=by
  rw[List.getD_eq_getElem?_getD,List.getElem?_eq_getElem hlt];exact List.take_succ_eq_append_getElem hlt
 have hmem:=zci (d:=default) hlt
 by_cases d1:(s.prs.getD j default).src≥(nu:Int)
 ·have e1:decide ((s.prs.getD j default).src≥(nu:Int))=true:=decide_eq_true d1
  (try simp(maxSteps:=1000000)(disch:=first|omega|(simp only[Z3];omega)|(simp;done)|assumption|decide|(apply not_not_intro;assumption))only[ZB,zjz,zro,g,c2,c5,lq,lu,a1,s1,s2,e1])
  exact hbad (List.any_eq_true.2 ⟨_,hmem,decide_eq_true (.inl d1)⟩)
 have e1:decide ((s.prs.getD j default).src≥(nu:Int))=false:=decide_eq_false d1
 by_cases d2:(s.prs.getD j default).dst≥(nu:Int)
 ·have e2:decide ((s.prs.getD j default).dst≥(nu:Int))=true:=decide_eq_true d2
  (try simp(maxSteps:=1000000)(disch:=first|omega|(simp only[Z3];omega)|(simp;done)|assumption|decide|(apply not_not_intro;assumption))only[ZB,zjz,zro,g,c2,c5,lq,lu,a1,s1,s2,e1,e2])
  exact hbad (List.any_eq_true.2 ⟨_,hmem,decide_eq_true (.inr d2)⟩)
 ·have e2:decide ((s.prs.getD j default).dst≥(nu:Int))=false:=decide_eq_false d2
  (try simp(maxSteps:=1000000)(disch:=first|omega|(simp only[Z3];omega)|(simp;done)|assumption|decide|(apply not_not_intro;assumption))only[ZB,zjz,zro,z79,g,c2,c5,lq,lu,a1,s1,s2,e1,e2])
  refine⟨hlt,rfl,?_⟩
  rw[htk,List.any_append,ha,List.any_cons,decide_eq_false (by rintro (q | q);exact d1 q;exact d2 q)]
  rfl
end Go.AM.Cap

/- conf, the document: the executive's Check, the units -/
set_option maxHeartbeats 16000000
namespace Go.AM.Cap
open Go.AM Go.Proofs
theorem zb00 {H:Heap} {x:SyV} {s:Sy} {p:Nat} {ul:List Un} (hc:(chkB s.pts s.grs).2=0) (h:SysAt H x s) (hu:Units H x.uv ul) (hul:ul.map Un.p=s.uns) (g:H.get p=some (.cells true (x.cs s))) (Q:Out→Heap→Prop)
  (hbad:zhz s s.uns s.uns.length=true→∀ H',Keeps [] H H'→Q (.ret [i64 270]) H') (hok:zhz s s.uns s.uns.length=false→∀ H',Keeps [] H H'→Q (.brk 4 []) H') :
  wp (zbf zbs zrp [ptr p 0,i64 0]) Q H:=by
 have hn:s.uns.length=ul.length:=by rw[← hul,List.length_map]
 have hsm:=h.small
 have h7:(x.cs s).length=7:=rfl
 have c5:(x.cs s)[5]? = some x.uv:=rfl
 refine zbt ul.length (by omega) (fun j vs H'=>vs=[ptr p 0,i64 j]∧Keeps [] H H'∧zhz s s.uns (ul.length - j)=zhz s s.uns s.uns.length) ⟨rfl,Keeps.refl _ _,by rw[hn];rfl⟩ ?_
 rintro j vs H2 hj ⟨rfl,k2,hgo⟩
 have hs2:=h.keep0 k2
 have hu2:=hu.keep0 k2
 have g2:=k2.get g (by simp)
 have hlen:=hu2.out.len
 by_cases hlt:j < ul.length
 case neg =>
  have:j=ul.length:=by omega
  subst this
  rw[Nat.sub_self] at hgo
  (try simp(maxSteps:=1000000)(disch:=first|omega|(simp only[Z3];omega)|(simp;done)|assumption|decide|(apply not_not_intro;assumption))only[ZB,zrp,g2,c5,hlen])
  exact hok (by rw[← hgo];rfl) _ k2
 have hat:=hu2.at hlt
 have hpj:s.uns.getD j default=(ul.getD j default).p:=by
  rw[← hul,List.getD_eq_getElem?_getD,List.getElem?_map,List.getD_eq_getElem?_getD,List.getElem?_eq_getElem hlt];rfl
 rw[show ul.length - j=(ul.length - j - 1) + 1 by omega] at hgo
 simp only[zhz] at hgo
 rw[show s.uns.length - (ul.length - j - 1 + 1)=j by omega,hpj] at hgo
 have a1:=hu2.out.addr' (n:=2) rfl (k := .i64) (i:=j) (by omega) (by omega)
 rw[Int.toNat_natCast] at a1
 have s0:=hu2.out.cell' (n:=2) rfl (off:=0) hlt (by omega) default
 rw[zbj,Nat.add_zero] at s0
 have t0:(Flat.enc (ul.getD j default))[0]? = some (ul.getD j default).ins.v:=rfl
 rw[t0] at s0
 have d2:=fun Q=>z7 (n:=7) (Q:=Q) g2 h7
 (try simp(maxSteps:=1000000)(disch:=first|omega|(simp only[Z3];omega)|(simp;done)|assumption|decide|(apply not_not_intro;assumption))only[ZA,zp,zo,zm,zi,zf,zg,zh,zd,zrp,z8b,g2,c5,hlen,d2,a1,s0])
 refine zbnu hs2 hat.1 j false _ fun H4 k4=>?_
 rw[zbv9 hc]
 have k24:=k2.trans k4 (fun _ _ h=>h)
 simp only[Un.p] at hgo
 cases hb1:zll s j (ul.getD j default).ins.xs false with
 | false =>
  rw[hb1,Bool.not_false,Bool.true_or] at hgo
  (try simp(maxSteps:=1000000)(disch:=first|omega|(simp only[Z3];omega)|(simp;done)|assumption|decide|(apply not_not_intro;assumption))only[ZB])
  exact hbad hgo.symm _ k24
 | true =>
  have g4:=k4.get g2 (by simp)
  have hu4:=hu2.keep0 k4
  have s1:=hu4.out.cell' (n:=2) rfl (off:=1) hlt (by omega) default
  rw[zbj] at s1
  have t1:(Flat.enc (ul.getD j default))[1]? = some (ul.getD j default).outs.v:=rfl
  rw[t1] at s1
  have d4:=fun Q=>z7 (n:=7) (Q:=Q) g4 h7
  (try simp(maxSteps:=1000000)(disch:=first|omega|(simp only[Z3];omega)|(simp;done)|assumption|decide|(apply not_not_intro;assumption))only[ZA,zp,zo,zm,zi,zf,zg,zh,zd,d4,g4,c5,a1,s1])
  refine zbnu (hs2.keep0 k4) (hat.2.keep0 k4) j true _ fun H5 k5=>?_
  rw[zbv9 hc]
  have k25:=k24.trans k5 (fun _ _ h=>h)
  cases hb2:zll s j (ul.getD j default).outs.xs true with
  | false =>
   rw[hb1,hb2,Bool.not_false,Bool.not_true,Bool.false_or,Bool.true_or] at hgo
   (try simp(maxSteps:=1000000)(disch:=first|omega|(simp only[Z3];omega)|(simp;done)|assumption|decide|(apply not_not_intro;assumption))only[ZB])
   exact hbad hgo.symm _ k25
  | true =>
   rw[hb1,hb2,Bool.not_true,Bool.false_or,Bool.false_or] at hgo
   (try simp(maxSteps:=1000000)(disch:=first|omega|(simp only[Z3];omega)|(simp;done)|assumption|decide|(apply not_not_intro;assumption))only[ZB,z8a])
   exact⟨hlt,rfl,k25,by rw[← hgo];congr 1⟩
end Go.AM.Cap

/- conf, the document: the executive's Check -/
set_option maxHeartbeats 16000000
namespace Go.AM.Cap
open Go.AM Go.Proofs
theorem zbx1 {H:Heap} {x:SyV} {s:Sy} (h:SysAt H x s) (Q:V→Heap→Prop) (hQ:∀ H',Keeps [] H H'→Q (i64 (exE s)) H'):wp (ztf [.agg (x.cs s).toArray]) Q H:=by
 show wp (z02 (.agg (x.cs s).toArray)) Q H
 have ho:=h.one
 have hsm:=h.small
 obtain⟨ul,hu,hul⟩:=h.uns
 have hn:s.uns.length=ul.length:=by rw[← hul,List.length_map]
 have hlen:=hu.out.len
 have k1:Keeps [] H (H.push (some (.cells true (x.cs s)))):=Keeps.push _ _ _
 have g1:(H.push (some (.cells true (x.cs s)))).get H.next=some (.cells true (x.cs s)):=Heap.get_push_self _ _
 unfold z02
 rw[z6,z6]
 refine (zby ho).mpr ?_
 generalize H.push (some (.cells true (x.cs s)))=H1 at *
 have c0:(x.cs s)[0]? = some x.pv:=rfl
 have c1:(x.cs s)[1]? = some x.gv:=rfl
 have c2:(x.cs s)[2]? = some x.qv:=rfl
 have c5:(x.cs s)[5]? = some x.uv:=rfl
 have c6:(x.cs s)[6]? = some (i64 s.millis):=rfl
 (try simp(maxSteps:=1000000)(disch:=first|omega|(simp only[Z3];omega)|(simp;done)|assumption|decide|(apply not_not_intro;assumption))only[ZB,g1,c0,c1])
 refine z88 (h.pts.keep0 k1) (h.grs.keep0 k1) (by omega) _ fun H2 k2=>?_
 have k02:=k1.trans k2 (fun _ _ h=>h)
 have g2:=k2.get g1 (by simp)
 unfold exE at hQ
 by_cases e1:(chkB s.pts s.grs).2=0
 case neg =>
  have q:=hQ _ k02
  rw[if_pos e1] at q
  (try simp(maxSteps:=1000000)(disch:=first|omega|(simp only[Z3];omega)|(simp;done)|assumption|decide|(apply not_not_intro;assumption))only[ZB])
  exact q
 rw[if_neg (by simp[e1])] at hQ
 (try simp(maxSteps:=1000000)(disch:=first|omega|(simp only[Z3];omega)|(simp;done)|assumption|decide|(apply not_not_intro;assumption))only[ZB,z5b,g2,c2])
 refine z81 H2 x.qv s.prs (h.prs.keep0 k02) _ fun H3 k3=>?_
 have k03:=k02.trans k3 (fun _ _ h=>h)
 have g3:=k3.get g2 (by simp)
 by_cases e2:(chkP s.prs).2=0
 case neg =>
  have q:=hQ _ k03
  rw[if_pos e2] at q
  (try simp(maxSteps:=1000000)(disch:=first|omega|(simp only[Z3];omega)|(simp;done)|assumption|decide|(apply not_not_intro;assumption))only[ZB])
  exact q
 rw[if_neg (by simp[e2])] at hQ
 have d3:∀ Q,wp (ldn 2 (ptr H.next 3)) Q H3↔Q (.agg [i64 s.frame,x.wv].toArray) H3:=fun Q=>by
  rw[zbh,g3,zpc (by show 3 + 2≤7;omega)]
  rfl
 (try simp(maxSteps:=1000000)(disch:=first|omega|(simp only[Z3];omega)|(simp;done)|assumption|decide|(apply not_not_intro;assumption))only[ZA,zp,zo,zm,zi,zf,zg,zh,zd,z5a,d3,g3,c5,hlen])
 refine zb0w s.frame (ul.length:Int) (h.wins.keep0 k03) (by omega) _ fun a H4 k4=>?_
 have k04:=k03.trans k4 (fun _ _ h=>h)
 have g4:=k4.get g3 (by simp)
 by_cases e3:zvi s.frame s.wins s.uns.length=0
 case neg =>
  have q:=hQ _ k04
  rw[if_pos e3] at q
  rw[hn] at e3 q
  (try simp(maxSteps:=1000000)(disch:=first|omega|(simp only[Z3];omega)|(simp;done)|assumption|decide|(apply not_not_intro;assumption))only[ZB])
  exact q
 rw[if_neg (by simp[e3])] at hQ
 rw[hn] at e3
 rw[e3]
 have hbad:(s.millis < 1∨s.millis > 10000∨(s.grs.any fun g=>decide (g.part≥s.uns.length))=true∨(s.prs.any fun p=>decide (p.src≥s.uns.length∨p.dst≥s.uns.length))=true)→Q (i64 270) H4:=fun hc=>by
  have q:=hQ _ k04
  rw[if_pos hc] at q
  exact q
 rw[hn] at hbad
 by_cases f1:s.millis < 1
 ·(try simp(maxSteps:=1000000)(disch:=first|omega|(simp only[Z3];omega)|(simp;done)|assumption|decide|(apply not_not_intro;assumption))only[ZB,zo8,g4,c6])
  exact hbad (.inl f1)
 by_cases f2:s.millis > 10000
 ·(try simp(maxSteps:=1000000)(disch:=first|omega|(simp only[Z3];omega)|(simp;done)|assumption|decide|(apply not_not_intro;assumption))only[ZB,zo8,g4,c6])
  exact hbad (.inr (.inl f2))
 (try simp(maxSteps:=1000000)(disch:=first|omega|(simp only[Z3];omega)|(simp;done)|assumption|decide|(apply not_not_intro;assumption))only[ZB,zo8,g4,c6,z49])
 refine zb0y (h.keep0 k04) g4 hlen _ (fun f3=>?_) fun f3=>?_
 ·(try simp(maxSteps:=1000000)(disch:=first|omega|(simp only[Z3];omega)|(simp;done)|assumption|decide|(apply not_not_intro;assumption))only[ZB])
  exact hbad (.inr (.inr (.inl f3)))
 (try simp(maxSteps:=1000000)(disch:=first|omega|(simp only[Z3];omega)|(simp;done)|assumption|decide|(apply not_not_intro;assumption))only[ZB,z48])
 refine zb0z (h.keep0 k04) g4 hlen _ (fun f4=>?_) fun f4=>?_
 ·(try simp(maxSteps:=1000000)(disch:=first|omega|(simp only[Z3];omega)|(simp;done)|assumption|decide|(apply not_not_intro;assumption))only[ZB])
  exact hbad (.inr (.inr (.inr f4)))
 rw[if_neg (by rw[hn];rintro (q | q | q | q);exact f1 q;exact f2 q;rw[f3] at q;cases q;rw[f4] at q;cases q)] at hQ
 (try simp(maxSteps:=1000000)(disch:=first|omega|(simp only[Z3];omega)|(simp;done)|assumption|decide|(apply not_not_intro;assumption))only[ZB,z47])
 refine zb00 e1 (h.keep0 k04) (hu.keep0 k04) hul g4 _ (fun hb H7 k7=>?_) fun hb H7 k7=>?_
 ·have q:=hQ _ (k04.trans k7 (fun _ _ h=>h))
  rw[if_pos hb] at q
  (try simp(maxSteps:=1000000)(disch:=first|omega|(simp only[Z3];omega)|(simp;done)|assumption|decide|(apply not_not_intro;assumption))only[ZB])
  exact q
 ·have q:=hQ _ (k04.trans k7 (fun _ _ h=>h))
  rw[if_neg (by simp[hb])] at q
  (try simp(maxSteps:=1000000)(disch:=first|omega|(simp only[Z3];omega)|(simp;done)|assumption|decide|(apply not_not_intro;assumption))only[ZB,z8c])
  exact q
end Go.AM.Cap
