import Derived.Test.YtjchglndancedaaGreatDoorCfD
import Derived.Test.YtjchglndancedaaGreatDoorAmIn
set_option linter.all false
/- conf: exec.binds, exec.Check -/
set_option maxHeartbeats 8000000
namespace Go.AM.Cap
open Go.AM Go.Proofs
def zr4 (s:Sy) (unit:Int) (out:Bool):List Bd→List Bd→Bool
 | _,[]=>true
 | seen,b :: bs=>if z00 s unit b out=false∨b∈seen then false else zr4 s unit out (seen ++ [b]) bs
def zlg (s:Sy) (unit:Int) (l:List Bd) (out:Bool):Bool:=if l.length > 32 then false else zr4 s unit out [] l
theorem zbz3 {H:Heap} {x:SyV} {s:Sy} {S:zx} (h:SysAt H x s) (b:Bd) (unit:Int) (out:Bool) (Q:V→Heap→Prop) (hQ:∀ H',Keeps [] H H'→Q (.bool (z00 s unit b out)) H') :
  wp (invM Tryz.prog (ovr [(zhj,zjd),(zig,zks),(zhl,zje),(zhi,zez),(zcf,zbs)] S) (bdV b) "capstan/exec.may" [.agg (x.cs s).toArray,i64 unit,.bool out]) Q H:=by
 unfold z00 at hQ
 unfold bdV
 by_cases h1:b.kind=1
 ·rw[if_pos h1,zbd2 (zbud _),zbjw]
  rw[if_pos h1] at hQ
  exact zbot h b.n unit out Q hQ
 ·rw[if_neg h1]
  rw[if_neg h1] at hQ
  by_cases h2:b.kind=2
  ·rw[if_pos h2,zbd2 (zbxm _),zbov rfl,zbjw]
   rw[if_pos h2] at hQ
   exact zbrx h b.n unit out Q hQ
  ·rw[if_neg h2,zbd2 (zbue _),zbov rfl,zbov rfl,zbjw]
   rw[if_neg h2] at hQ
   exact zbow h unit out Q hQ
theorem zbry {H:Heap} {x:SyV} {s:Sy} {lv:V} {l:List Bd} (h:SysAt H x s) (hl:Sl H lv l) (unit:Int) (out:Bool) (Q:V→Heap→Prop) (hQ:∀ H',Keeps [] H H'→Q (.bool (zlg s unit l out)) H'):wp (zra [.agg (x.cs s).toArray,i64 unit,lv,.bool out]) Q H:=by
 show wp (z1x (.agg (x.cs s).toArray) (i64 unit) lv (.bool out)) Q H
 have ho:=h.one
 have hsame:=h.same
 have hlen:=hl.len
 have k1:Keeps [] H (H.push (some (.cells true (x.cs s)))):=Keeps.push _ _ _
 have g1:(H.push (some (.cells true (x.cs s)))).get H.next=some (.cells true (x.cs s)):=Heap.get_push_self _ _
 have h7:(x.cs s).length=7:=rfl
 unfold z1x
 rw[z7,z7]
 refine (zb0 ho).mpr ?_
 generalize H.push (some (.cells true (x.cs s)))=H1 at *
 by_cases c:l.length > 32
 ·have q:=hQ _ k1
  rw[zlg,if_pos c] at q
  (try simp (maxSteps:=999999) (disch:=try exact ZD) only[ZB,hlen])
  exact q
 have hb:zlg s unit l out=zr4 s unit out [] l:=by rw[zlg,if_neg c]
 rw[hb] at hQ
 (try simp (maxSteps:=999999) (disch:=try exact ZD) only[ZB,hlen,z9k])
 refine zbo l.length (by omega) (fun j vs H'=>vs=[i64 unit,lv,.bool out,ptr H.next 0,lv,i64 l.length,i64 j]∧Keeps [] H1 H'∧zr4 s unit out (l.take j) (l.drop j)=zr4 s unit out [] l) ⟨rfl,Keeps.refl _ _,rfl⟩ ?_
 rintro j vs H2 hj ⟨rfl,k2,hgo⟩
 have k02:=k1.trans k2 (fun _ _ h=>h)
 have hl2:=hl.keep0 k02
 by_cases hlt:j < l.length
 case neg =>
  have:j=l.length:=by omega
  subst this
  rw[List.drop_length,zr4] at hgo
  have q:=hQ _ k02
  rw[← hgo] at q
  (try simp (maxSteps:=999999) (disch:=try exact ZD) only[ZB,zzi,z9j])
  exact q
 have hts:l.take (j + 1)=l.take j ++ [l.getD j default]:=by
  rw[List.getD_eq_getElem?_getD,List.getElem?_eq_getElem hlt];exact List.take_succ_eq_append_getElem hlt
 rw[zbaa l j default hlt,zr4] at hgo
 obtain⟨w,hw,hsw⟩:=zbvi (α:=Bd) (n:=2) rfl hl2 hlt
 have htl:(l.take j).length≤32:=by rw[List.length_take];omega
 rw[hts]
 have a1:=hl2.addr' (n:=2) rfl (k := .i64) (i:=j) (by omega) (by omega)
 rw[Int.toNat_natCast] at a1
 have d1:=fun Q=>hl2.ldn' (Q:=Q) (n:=2) rfl hlt default
 have g2:=k2.get g1 (by simp)
 generalize l.getD j default=b at *
 (try simp (maxSteps:=999999) (disch:=try exact ZD) only[ZA,zo,zn,zm,zk,zi,zj,zg,ze,zzi,z9i,a1,d1,zxo])
 have k3:Keeps [] H2 (H2.push (some (.cells true [i64 b.kind,i64 b.n]))):=Keeps.push _ _ _
 have g3:(H2.push (some (.cells true [i64 b.kind,i64 b.n]))).get H2.next=some (.cells true [i64 b.kind,i64 b.n]):=Heap.get_push_self _ _
 have n3:(H2.push (some (.cells true [i64 b.kind,i64 b.n]))).next=H2.next + 1:=by simp
 generalize H2.push (some (.cells true [i64 b.kind,i64 b.n]))=H3 at *
 have g13:=k3.get g2 (by simp)
 have d3:=fun Q=>zbb (n:=2) (Q:=Q) g3 rfl
 have d13:=fun Q=>zbb (n:=7) (Q:=Q) g13 h7
 (try simp (maxSteps:=999999) (disch:=try exact ZD) only[ZA,zo,zn,zm,zk,zi,zj,zg,ze,d3,d13])
 refine zbjv b _ fun H4 k4=>?_
 have k34:=(k02.trans k3 (fun _ _ h=>h)).trans k4 (fun _ _ h=>h)
 have ck:chk (ldn 7 (ptr H.next 0)) H4 (.agg (x.cs s).toArray)=true:=zbou (k4.get g13 (by simp)) h7 hsame
 (try simp (maxSteps:=999999) (disch:=try exact ZD) only[ZB])
 refine zbz3 (h.keep0 k34) b unit out _ fun H5 k5=>?_
 have k45:=k34.trans k5 (fun _ _ h=>h)
 cases hm:z00 s unit b out with
 | false =>
  rw[if_pos (.inl hm)] at hgo
  have q:=hQ _ k45
  rw[← hgo] at q
  (try simp (maxSteps:=999999) (disch:=try exact ZD) only[ZB,ck])
  exact q
 | true =>
  have g5:=k5.get (k4.get g3 (by simp)) (by simp)
  have d5:=fun Q=>zbb (n:=2) (Q:=Q) g5 rfl
  (try simp (maxSteps:=999999) (disch:=try exact ZD) only[ZA,zo,zn,zm,zk,zi,zj,zg,ze,hw,d5])
  refine zbox (((hsw.keep0 k3).keep0 k4).keep0 k5) (by omega) b _ fun H6 k6=>?_
  have k46:=k45.trans k6 (fun _ _ h=>h)
  by_cases hc:b∈l.take j
  ·rw[if_pos (.inr hc)] at hgo
   have q:=hQ _ k46
   rw[← hgo] at q
   rw[decide_eq_true hc]
   (try simp (maxSteps:=999999) (disch:=try exact ZD) only[ZB,ck])
   exact q
  ·rw[if_neg (by simp[hm,hc])] at hgo
   rw[decide_eq_false hc]
   (try simp (maxSteps:=999999) (disch:=try exact ZD) only[ZB,ck,z9h])
   exact⟨hlt,rfl,((k2.trans k3 (fun _ _ h=>h)).trans k4 (fun _ _ h=>h)).trans k5 (fun _ _ h=>h) |>.trans k6 (fun _ _ h=>h),hgo⟩
def zhr (s:Sy) (l:List PUn):Nat→Bool
 | 0=>false
 | k + 1=>!zlg s ((l.length - (k + 1):Nat):Int) (l.getD (l.length - (k + 1)) default).ins false || (!zlg s ((l.length - (k + 1):Nat):Int) (l.getD (l.length - (k + 1)) default).outs true || zhr s l k)
def exE (s:Sy):Int :=
 if (chkB s.pts s.grs).2≠0 then (chkB s.pts s.grs).2 else
 if (chkP s.prs).2≠0 then (chkP s.prs).2 else
 if zsn s.frame s.wins s.uns.length≠0 then zsn s.frame s.wins s.uns.length else
 if s.millis < 1∨s.millis > 10000∨(s.grs.any fun g=>decide (g.part≥s.uns.length))=true∨(s.prs.any fun p=>decide (p.src≥s.uns.length∨p.dst≥s.uns.length))=true then 270 else
 if zhr s s.uns s.uns.length=true then 270 else 0
theorem zb2v {H:Heap} {b:Nat} (x:Gr) (Q:V→Heap→Prop) (h:wp (zex [.agg (Flat.enc x).toArray,ptr b 0]) Q H):wp (znw (ovr [] (ovr [(zds,zex),(zdt,zey)] noC)) (.func (.func zds) #[] #[ptr b 0]) [.agg (Flat.enc x).toArray]) Q H:=h
theorem zb2w {H:Heap} {b:Nat} (x:Port) (Q:V→Heap→Prop) (h:wp (zey [.agg (Flat.enc x).toArray,ptr b 0]) Q H):wp (znw (ovr [] (ovr [(zds,zex),(zdt,zey)] noC)) (.func (.func zdt) #[] #[ptr b 0]) [.agg (Flat.enc x).toArray]) Q H:=h
theorem zbxo {H:Heap} {x:SyV} {s:Sy} {p:Nat} {ul:List Un} (h:SysAt H x s) (hu:Units H x.uv ul) (hul:ul.map Un.p=s.uns) (g:H.get p=some (.cells true (x.cs s))) (Q:V→Heap→Prop) (R:Heap→Prop)
  (hbad:zhr s s.uns s.uns.length=true→∀ H',Keeps [] H H'→Q (i64 270) H') (hok:zhr s s.uns s.uns.length=false→∀ H',Keeps [] H H'→Q (i64 0) H') :
  wp (ztf [ptr p 0]) (fun o H'=>wp (zbk o fun vs=>ret (zbi [zd vs 0])) Q H') H:=by
 have hn:s.uns.length=ul.length:=by rw[← hul,List.length_map]
 have hsm:=h.small
 have hlen:=hu.out.len
 have h7:(x.cs s).length=7:=rfl
 have c5:(x.cs s)[5]? = some x.uv:=rfl
 (try simp (maxSteps:=999999) (disch:=try exact ZD) only[ZB,ztf,g,c5,hlen])
 refine zbo ul.length (by omega) (fun j vs H'=>vs=[ptr p 0,x.uv,i64 ul.length,i64 j]∧Keeps [] H H'∧zhr s s.uns (ul.length - j)=zhr s s.uns s.uns.length) ⟨rfl,Keeps.refl _ _,by rw[hn];rfl⟩ ?_
 rintro j vs H2 hj ⟨rfl,k2,hgo⟩
 by_cases hlt:j < ul.length
 case neg =>
  have:j=ul.length:=by omega
  subst this
  rw[Nat.sub_self] at hgo
  (try simp (maxSteps:=999999) (disch:=try exact ZD) only[ZB,zzj,z9n])
  exact hok (by rw[← hgo];rfl) _ k2
 have hs2:=h.keep0 k2
 have hu2:=hu.keep0 k2
 have g2:=k2.get g (by simp)
 have hat:=hu2.at hlt
 have hpj:s.uns.getD j default=(ul.getD j default).p:=by
  rw[← hul,List.getD_eq_getElem?_getD,List.getElem?_map,List.getD_eq_getElem?_getD,List.getElem?_eq_getElem hlt];rfl
 rw[show ul.length - j=(ul.length - j - 1) + 1 by omega] at hgo
 simp only[zhr] at hgo
 rw[show s.uns.length - (ul.length - j - 1 + 1)=j by omega,hpj] at hgo
 have a1:=hu2.out.addr' (n:=2) rfl (k := .i64) (i:=j) (by omega) (by omega)
 rw[Int.toNat_natCast] at a1
 have d1:=fun Q=>hu2.out.ldn' (Q:=Q) (n:=2) rfl hlt default
 generalize ul.getD j default=u at *
 have hone:([u.ins.v,u.outs.v]:List V).all Value.isOne=true:=by simp[u.ins.one,u.outs.one]
 (try simp (maxSteps:=999999) (disch:=try exact ZD) only[ZA,zo,zn,zm,zk,zi,zj,zg,ze,zzj,z9m,a1,d1,zbos])
 have k3:Keeps [] H2 (H2.push (some (.cells true [u.ins.v,u.outs.v]))):=Keeps.push _ _ _
 have g3:(H2.push (some (.cells true [u.ins.v,u.outs.v]))).get H2.next=some (.cells true [u.ins.v,u.outs.v]):=Heap.get_push_self _ _
 generalize H2.push (some (.cells true [u.ins.v,u.outs.v]))=H3 at *
 have g13:=k3.get g2 (by simp)
 have d13:=fun Q=>zbb (n:=7) (Q:=Q) g13 h7
 (try simp (maxSteps:=999999) (disch:=try exact ZD) only[ZA,zo,zn,zm,zk,zi,zj,zg,ze,d13,g3])
 refine zbry (hs2.keep0 k3) (hat.1.keep0 k3) j false _ fun H4 k4=>?_
 have k24:=(k2.trans k3 (fun _ _ h=>h)).trans k4 (fun _ _ h=>h)
 simp only[Un.p] at hgo
 cases hb1:zlg s j u.ins.xs false with
 | false =>
  rw[hb1,Bool.not_false,Bool.true_or] at hgo
  (try simp (maxSteps:=999999) (disch:=try exact ZD) only[ZB])
  exact hbad hgo.symm _ k24
 | true =>
  have g4:=k4.get g13 (by simp)
  have g34:=k4.get g3 (by simp)
  have d4:=fun Q=>zbb (n:=7) (Q:=Q) g4 h7
  (try simp (maxSteps:=999999) (disch:=try exact ZD) only[ZA,zo,zn,zm,zk,zi,zj,zg,ze,d4,g34])
  refine zbry ((hs2.keep0 k3).keep0 k4) ((hat.2.keep0 k3).keep0 k4) j true _ fun H5 k5=>?_
  have k25:=k24.trans k5 (fun _ _ h=>h)
  cases hb2:zlg s j u.outs.xs true with
  | false =>
   rw[hb1,hb2,Bool.not_false,Bool.not_true,Bool.false_or,Bool.true_or] at hgo
   (try simp (maxSteps:=999999) (disch:=try exact ZD) only[ZB])
   exact hbad hgo.symm _ k25
  | true =>
   rw[hb1,hb2,Bool.not_true,Bool.false_or,Bool.false_or] at hgo
   (try simp (maxSteps:=999999) (disch:=try exact ZD) only[ZB,z9l])
   exact⟨hlt,rfl,k25,by rw[← hgo];congr 1⟩
theorem zblv {H:Heap} {x:SyV} {s:Sy} (h:SysAt H x s) (Q:V→Heap→Prop) (hQ:∀ H',Keeps [] H H'→Q (i64 (exE s)) H'):wp (zva [.agg (x.cs s).toArray]) Q H:=by
 show wp (z1y (.agg (x.cs s).toArray)) Q H
 have ho:=h.one
 have hsm:=h.small
 obtain⟨ul,hu,hul⟩:=h.uns
 have hn:s.uns.length=ul.length:=by rw[← hul,List.length_map]
 have hlen:=hu.out.len
 have k1:Keeps [] H (H.push (some (.cells true (x.cs s)))):=Keeps.push _ _ _
 have g1:(H.push (some (.cells true (x.cs s)))).get H.next=some (.cells true (x.cs s)):=Heap.get_push_self _ _
 unfold z1y
 rw[z7,z7]
 refine (zb0 ho).mpr ?_
 generalize H.push (some (.cells true (x.cs s)))=H1 at *
 have c0:(x.cs s)[0]? = some x.pv:=rfl
 have c1:(x.cs s)[1]? = some x.gv:=rfl
 have c2:(x.cs s)[2]? = some x.qv:=rfl
 have c5:(x.cs s)[5]? = some x.uv:=rfl
 have c6:(x.cs s)[6]? = some (i64 s.millis):=rfl
 (try simp (maxSteps:=999999) (disch:=try exact ZD) only[ZB,g1,c0,c1])
 refine z3r H1 x.pv x.gv s.pts s.grs (h.pts.keep0 k1) (h.grs.keep0 k1) (by omega) _ fun H2 k2=>?_
 have k02:=k1.trans k2 (fun _ _ h=>h)
 have g2:=k2.get g1 (by simp)
 unfold exE at hQ
 by_cases e1:(chkB s.pts s.grs).2=0
 case neg =>
  have q:=hQ _ k02
  rw[if_pos e1] at q
  (try simp (maxSteps:=999999) (disch:=try exact ZD) only[ZB])
  exact q
 rw[if_neg (by simp[e1])] at hQ
 (try simp (maxSteps:=999999) (disch:=try exact ZD) only[ZB,z9q,g2,c2])
 refine z7b H2 x.qv s.prs (h.prs.keep0 k02) _ fun H3 k3=>?_
 have k03:=k02.trans k3 (fun _ _ h=>h)
 have g3:=k3.get g2 (by simp)
 by_cases e2:(chkP s.prs).2=0
 case neg =>
  have q:=hQ _ k03
  rw[if_pos e2] at q
  (try simp (maxSteps:=999999) (disch:=try exact ZD) only[ZB])
  exact q
 rw[if_neg (by simp[e2])] at hQ
 have d3:∀ Q,wp (ldn 2 (ptr H.next 3)) Q H3↔Q (.agg [i64 s.frame,x.wv].toArray) H3:=fun Q=>by
  rw[zbz,g3,zy2 (by show 3 + 2≤7;omega)]
  rfl
 (try simp (maxSteps:=999999) (disch:=try exact ZD) only[ZA,zo,zn,zm,zk,zi,zj,zg,ze,z9p,d3,g3,c5,hlen])
 refine zblt s.frame (ul.length:Int) (h.wins.keep0 k03) (by omega) _ fun a H4 k4=>?_
 have k04:=k03.trans k4 (fun _ _ h=>h)
 have g4:=k4.get g3 (by simp)
 by_cases e3:zsn s.frame s.wins s.uns.length=0
 case neg =>
  have q:=hQ _ k04
  rw[if_pos e3] at q
  rw[hn] at e3 q
  (try simp (maxSteps:=999999) (disch:=try exact ZD) only[ZB])
  exact q
 rw[if_neg (by simp[e3])] at hQ
 rw[hn] at e3
 rw[e3]
 have g5:(H4.push (some (.cells true [i64 ul.length]))).get H4.next=some (.cells true [i64 ul.length]):=Heap.get_push_self _ _
 have g15:(H4.push (some (.cells true [i64 ul.length]))).get H.next=some (.cells true (x.cs s)):=(Keeps.push [] _ _).get g4 (by simp)
 have k05:Keeps [] H (H4.push (some (.cells true [i64 ul.length]))):=zbq k04
 (try simp (maxSteps:=999999) (disch:=try exact ZD) only[ZB,z9o,g4,c5,hlen])
 generalize H4.push (some (.cells true [i64 ul.length]))=H5 at *
 have hlast:∀ H6,Keeps [] H5 H6→¬ (s.millis < 1∨s.millis > 10000∨(s.grs.any fun g=>decide (g.part≥s.uns.length))=true∨(s.prs.any fun p=>decide (p.src≥s.uns.length∨p.dst≥s.uns.length))=true)→wp (ztf [ptr H.next 0]) (fun o H'=>wp (zbk o fun vs=>ret (zbi [zd vs 0])) Q H') H6:=fun H6 k6 hc=>by
  rw[if_neg hc] at hQ
  have k06:=k05.trans k6 (fun _ _ h=>h)
  refine zbxo (h.keep0 k06) (hu.keep0 k06) hul (k6.get g15 (by simp)) Q (fun _=>True) (fun hb H7 k7=>?_) fun hb H7 k7=>?_
  ·have q:=hQ _ (k06.trans k7 (fun _ _ h=>h))
   rw[if_pos hb] at q
   exact q
  ·have q:=hQ _ (k06.trans k7 (fun _ _ h=>h))
   rw[if_neg (by simp[hb])] at q
   exact q
 have hbad:∀ H6,Keeps [] H5 H6→(s.millis < 1∨s.millis > 10000∨(s.grs.any fun g=>decide (g.part≥s.uns.length))=true∨(s.prs.any fun p=>decide (p.src≥s.uns.length∨p.dst≥s.uns.length))=true)→Q (i64 270) H6:=fun H6 k6 hc=>by
  have q:=hQ _ (k05.trans k6 (fun _ _ h=>h))
  rw[if_pos hc] at q
  exact q
 rw[hn] at hlast hbad
 by_cases f1:s.millis < 1
 ·(try simp (maxSteps:=999999) (disch:=try exact ZD) only[ZB,g15,c6])
  exact hbad _ (Keeps.refl _ _) (.inl f1)
 by_cases f2:s.millis > 10000
 ·(try simp (maxSteps:=999999) (disch:=try exact ZD) only[ZB,g15,c6])
  exact hbad _ (Keeps.refl _ _) (.inr (.inl f2))
 (try simp (maxSteps:=999999) (disch:=try exact ZD) only[ZB,g15,c6,c1,ctGr])
 refine zbuc (α:=Gr) rfl (h.grs.keep0 k05) (by omega) (fun g=>decide (g.part≥(ul.length:Int))) (fun H6 y R k6 hR=>zb2v y R (zb2r (k6.get g5 (by simp)) y R hR)) _ fun H6 k6=>?_
 have g16:=k6.get g15 (by simp)
 cases f3:s.grs.any fun g=>decide (g.part≥(ul.length:Int)) with
 | true =>
  (try simp (maxSteps:=999999) (disch:=try exact ZD) only[ZB])
  exact hbad _ k6 (.inr (.inr (.inl f3)))
 | false =>
  (try simp (maxSteps:=999999) (disch:=try exact ZD) only[ZB,g16,c2,zb5p])
  refine zbuc (α:=Port) rfl ((h.prs.keep0 k05).keep0 k6) (by omega) (fun p=>decide (p.src≥(ul.length:Int)∨p.dst≥(ul.length:Int))) (fun H7 y R k7 hR=>zb2w y R (zb2s ((k6.trans k7 (fun _ _ h=>h)).get g5 (by simp)) y R hR)) _ fun H7 k7=>?_
  have k67:=k6.trans k7 (fun _ _ h=>h)
  cases f4:s.prs.any fun p=>decide (p.src≥(ul.length:Int)∨p.dst≥(ul.length:Int)) with
  | true =>
   (try simp (maxSteps:=999999) (disch:=try exact ZD) only[ZB])
   exact hbad _ k67 (.inr (.inr (.inr f4)))
  | false =>
   have:=hlast _ k67 (by rintro (q | q | q | q);exact f1 q;exact f2 q;rw[f3] at q;cases q;rw[f4] at q;cases q)
   (try simp (maxSteps:=999999) (disch:=try exact ZD) only[ZB])
   exact this
end Go.AM.Cap
