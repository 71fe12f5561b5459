import Derived.Test.YtjchglndancedaaGreatDoorCfG
import Derived.Test.YtjchglndancedaaGreatDoorAmIn
set_option linter.all false
/- conf: part.New, exec.New -/
set_option maxHeartbeats 8000000
namespace Go.AM.Cap
open Go.AM Go.Proofs
theorem zb5t {S:zx} {f:V} {H:Heap} {v:V} {l:List Int} (h:Sl H v l) (hl:l.length≤1000000000) (hp:∀ (H2:Heap) (x:Int) (Q:V→Heap→Prop),x∈l→Keeps [] H H2→(∀ H',Keeps [] H2 H'→Q (.bool false) H')→wp (znw (ovr [] S) f [i64 x]) Q H2)
  (Q:V→Heap→Prop) (hQ:∀ H',Keeps [] H H'→Q (.bool false) H'):wp (zdi S [v,f]) Q H:=by
 show wp (zfd S v f) Q H
 unfold zfd
 rw[z7,z7]
 show wp (zgn S v f) _ H
 have hlen:=h.len
 (try simp (maxSteps:=999999) (disch:=try exact ZD) only[ZB,zgn,hlen])
 refine zbo l.length (by omega) (fun j vs H'=>vs=[v,f,i64 l.length,i64 j]∧Keeps [] H H') ⟨rfl,Keeps.refl _ _⟩ ?_
 rintro j vs H1 hj ⟨rfl,hk1⟩
 by_cases hlt:j < l.length
 case neg =>
  have e:decide ((-1:Int)≥0)=false:=by decide
  (try simp (maxSteps:=999999) (disch:=try exact ZD) only[ZB,zgb,zjw,e])
  exact hQ _ hk1
 have a1:=(h.keep0 hk1).addr1 rfl (k := .i64) (i:=j) (by omega) (by omega)
 rw[Int.toNat_natCast] at a1
 have c1:=(h.keep0 hk1).cell1 rfl hlt 0
 rw[zbd] at c1
 have e1:(Flat.enc (l.getD j 0))[0]? = some (i64 (l.getD j 0)):=rfl
 rw[e1] at c1
 have hm:l.getD j 0∈l:=zbh hlt
 (try simp (maxSteps:=999999) (disch:=try exact ZD) only[ZB,zgb,zjv,a1,c1])
 refine hp H1 _ _ hm hk1 fun H2 k2=>?_
 (try simp (maxSteps:=999999) (disch:=try exact ZD) only[ZB,zju])
 exact⟨hlt,rfl,hk1.trans k2 (by simp)⟩
theorem zbr0 {H:Heap} {v w:V} {xs ys:List Int} (hv:Sl H v xs) (hw:Sl H w ys) (h1:xs.length≤32) (h2:ys.length≤32) (g1:∀ t∈xs,1≤t∧t≤3) (g2:∀ t∈ys,1≤t∧t≤3) (Q:V→Heap→Prop)
  (hQ:∀ p H',Keeps [] H H'→Q (.tuple #[ptr p 0,i64 0]) H'):wp (z12 [v,w]) Q H:=by
 show wp (zbba v w) Q H
 have l1:=hv.len
 have l2:=hw.len
 have ov:=hv.isOne
 have ow:=hw.isOne
 (try simp (maxSteps:=999999) (disch:=try exact ZD) only[ZA,zbz,zo,zn,zm,zk,zj,zg,ze,zbba,l1,l2,zbf9])
 have hcs:zbu (rep 2 [Value.slice none 0 0]) [(0,1,v),(1,1,w)]=some [v,w]:=by
  show zbu [Value.slice none 0 0,Value.slice none 0 0] _=_
  rw[ze ov (by decide),ze ow (by simp),zb1]
  rfl
 refine (zdf (by decide) hcs).mpr ?_
 have k1:Keeps [] H (H.push (some (.cells true [v,w]))):=Keeps.push _ _ _
 have hg:(H.push (some (.cells true [v,w]))).get H.next=some (.cells true [v,w]):=Heap.get_push_self _ _
 generalize H.push (some (.cells true [v,w]))=H1 at *
 have hs2:Sl2 H1 (slc H.next 0 1 2 2) ([⟨v,xs,ov⟩,⟨w,ys,ow⟩]:List (In Int)):=by
  refine⟨.inr ⟨H.next,0,1,2,rfl,Nat.le_refl _,Heap.get_lt hg,.inr ⟨true,_,hg,Nat.le_refl _,rfl⟩,.inr rfl⟩,fun x hx=>?_⟩
  simp only[List.mem_cons,List.not_mem_nil,or_false] at hx
  rcases hx with rfl | rfl
  ·exact hv.keep0 k1
  ·exact hw.keep0 k1
 (try simp (maxSteps:=999999) (disch:=try exact ZD) only[ZB,ccI])
 refine zbz5 (α:=Int) rfl rfl rfl hs2 (by simp) (by simp[zpq];omega) (by omega) _ fun c H2 o2 k2 f2=>?_
 have k02:=k1.trans k2 (fun _ _ h=>h)
 have hcat:z7e ([⟨v,xs,ov⟩,⟨w,ys,ow⟩]:List (In Int))=xs ++ ys:=by simp[z7e]
 rw[hcat] at o2
 (try simp (maxSteps:=999999) (disch:=try exact ZD) only[ZB])
 refine zb5t o2.sl (by rw[List.length_append];omega) (fun H3 x R hx k3 hR=>?_) _ fun H3 k3=>?_
 ·have hr:1≤x∧x≤3:=by
   rcases List.mem_append.1 hx with hx | hx
   ·exact g1 x hx
   ·exact g2 x hx
  show wp (zvc [i64 x]) R H3
  show wp (z11 (i64 x)) R H3
  (try simp (maxSteps:=999999) (disch:=try exact ZD) only[ZB,z11])
  have e:decide (x > 3)=false:=decide_eq_false (by omega)
  simpa[e] using hR H3 (Keeps.refl _ _)
 have k03:=k02.trans k3 (fun _ _ h=>h)
 (try simp (maxSteps:=999999) (disch:=try exact ZD) only[ZB,zbf8])
 refine zs3 (α:=Int) (n:=1) rfl rfl rfl (hv.keep0 k03) (by omega) (by omega) _ fun a H4 o4 k4 f4=>?_
 have k04:=k03.trans k4 (fun _ _ h=>h)
 (try simp (maxSteps:=999999) (disch:=try exact ZD) only[ZB])
 refine zs3 (α:=Int) (n:=1) rfl rfl rfl (hw.keep0 k04) (by omega) (by omega) _ fun b H5 o5 k5 f5=>?_
 have k05:=k04.trans k5 (fun _ _ h=>h)
 have oa:=o4.isOne
 have ob:=o5.isOne
 (try simp (maxSteps:=999999) (disch:=try exact ZD) only[ZA,zbz,zo,zn,zm,zk,zj,zg,ze])
 refine (zb0 (by simp[oa,ob])).mpr ?_
 exact hQ _ _ (zbq k05)
theorem zbgm {s:Sy} {unit:Int} {out:Bool}:∀ {l seen:List Bd},zr4 s unit out seen l=true→∀ b∈l,z00 s unit b out=true
 | [],_,_,b,hb=>by cases hb
 | x :: l,seen,h,b,hb=>by
  rw[zr4] at h
  by_cases hc:z00 s unit x out=false∨x∈seen
  ·rw[if_pos hc] at h;cases h
  ·rw[if_neg hc] at h
   rcases List.mem_cons.1 hb with rfl | hb
   ·cases hm:z00 s unit b out with
    | true=>rfl
    | false=>exact absurd (.inl hm) hc
   ·exact zbgm h b hb
theorem zs4 {s:Sy} {unit:Int} {out:Bool} {l:List Bd} (h:zlg s unit l out=true):l.length≤32∧∀ b∈l,z00 s unit b out=true:=by
 unfold zlg at h
 by_cases hc:l.length > 32
 ·rw[if_pos hc] at h;cases h
 ·rw[if_neg hc] at h
  exact⟨by omega,zbgm h⟩
theorem z02 {s:Sy} {unit:Int} {out:Bool} {b:Bd} (hg:∀ g∈s.grs,0≤g.point∧g.point < s.pts.length) (h:z00 s unit b out=true):inB s b:=by
 unfold z00 at h
 by_cases h1:b.kind=1
 ·rw[if_pos h1,zbjt,List.any_eq_true] at h
  obtain⟨g,hm,hg2⟩:=h
  unfold mayG at hg2
  simp only[Bool.and_eq_true,decide_eq_true_eq] at hg2
  have:=hg g hm
  exact .inl ⟨h1,by omega,by omega⟩
 ·rw[if_neg h1] at h
  by_cases h2:b.kind=2
  ·rw[if_pos h2,zbju] at h
   by_cases h3:b.n < 0∨b.n≥s.prs.length
   ·rw[if_pos h3] at h;cases h
   ·exact .inr ⟨h2,by omega,by omega⟩
  ·rw[if_neg h2] at h;cases h
theorem zbd3 {s:Sy} {l:List PUn}:∀ {k:Nat},zhr s l k=false→∀ i,l.length - k≤i→i < l.length→k≤l.length→zlg s i (l.getD i default).ins false=true∧zlg s i (l.getD i default).outs true=true
 | 0,_,i,h1,h2,_=>by omega
 | k + 1,h,i,h1,h2,h3=>by
  rw[zhr] at h
  simp only[Bool.or_eq_false_iff,Bool.not_eq_eq_eq_not,Bool.not_false] at h
  by_cases he:i=l.length - (k + 1)
  ·subst he;exact⟨h.1,h.2.1⟩
  ·exact zbd3 h.2.2 i (by omega) h2 (by omega)
structure SyOk (s:Sy):Prop where
 chkB:(chkB s.pts s.grs).2=0
 chkP:(chkP s.prs).2=0
 plan:zsn s.frame s.wins s.uns.length=0
 millis:1≤s.millis∧s.millis≤10000
 units:∀ i,i < s.uns.length→zlg s i (s.uns.getD i default).ins false=true∧zlg s i (s.uns.getD i default).outs true=true
theorem zbo0 {s:Sy} (h:exE s=0):SyOk s:=by
 unfold exE at h
 by_cases e1:(Cap.chkB s.pts s.grs).2=0
 case neg=>rw[if_pos e1] at h;exact absurd h e1
 rw[if_neg (by simp[e1])] at h
 by_cases e2:(Cap.chkP s.prs).2=0
 case neg=>rw[if_pos e2] at h;exact absurd h e2
 rw[if_neg (by simp[e2])] at h
 by_cases e3:zsn s.frame s.wins s.uns.length=0
 case neg=>rw[if_pos e3] at h;exact absurd h e3
 rw[if_neg (by simp[e3])] at h
 by_cases e4:s.millis < 1∨s.millis > 10000∨(s.grs.any fun g=>decide (g.part≥s.uns.length))=true∨(s.prs.any fun p=>decide (p.src≥s.uns.length∨p.dst≥s.uns.length))=true
 ·rw[if_pos e4] at h;cases h
 rw[if_neg e4] at h
 by_cases e5:zhr s s.uns s.uns.length=true
 ·rw[if_pos e5] at h;cases h
 exact⟨e1,e2,e3,by omega,fun i hi=>zbd3 (by simpa using e5) i (by omega) hi (by omega)⟩
theorem SyOk.grs {s:Sy} (h:SyOk s):∀ g∈s.grs,0≤g.point∧g.point < s.pts.length:=fun g hg=>((zqc h.chkB).2.2 g hg).2
theorem zbo1 {s:Sy} (h:SyOk s) {b:Bd} (hb:inB s b):1≤zqd s b∧zqd s b≤3:=by
 unfold zqd
 rcases hb with⟨h1,h2,h3⟩ | ⟨h1,h2,h3⟩
 ·rw[if_pos h1]
  have:=(zqc h.chkB).2.1 _ (zbh (d:=default) (show b.n.toNat < s.pts.length by omega))
  unfold z33 at this
  omega
 ·rw[if_neg (by omega),if_pos h1]
  have:=(z01 h.chkP).2 _ (zbh (d:=default) (show b.n.toNat < s.prs.length by omega))
  generalize s.prs.getD b.n.toNat default=p at *
  unfold zlf at this
  by_cases c1:p.kind≠1∧p.kind≠2
  ·rw[if_pos c1] at this;omega
  rw[if_neg c1] at this
  by_cases c2:¬ (0≤p.src∧p.src < 8)∨¬ (0≤p.dst∧p.dst < 8)
  ·rw[if_pos c2] at this;omega
  rw[if_neg c2] at this
  by_cases c3:p.src=p.dst
  ·rw[if_pos c3] at this;omega
  rw[if_neg c3] at this
  by_cases c4:p.typ < 1∨p.typ > 3
  ·rw[if_pos c4] at this;omega
  omega
end Go.AM.Cap

/- conf: exec.New -/
set_option maxHeartbeats 8000000
namespace Go.AM.Cap
open Go.AM Go.Proofs
structure Ut where
 p:Nat
 ins:In Ed
 outs:In Ed
instance:Inhabited Ut:=⟨⟨0,default,default⟩⟩
instance:Flat Ut:=⟨3,fun u=>[ptr u.p 0,u.ins.v,u.outs.v],fun _=>rfl,fun u=>by simp[u.ins.one,u.outs.one],by decide⟩
theorem zbr1 {H:Heap} {x:SyV} {s:Sy} (h:SysAt H x s) (Q:V→Heap→Prop)
  (hbad:exE s≠0→∀ H',Keeps [] H H'→Q (.tuple #[.pointer none,i64 (exE s)]) H') (hQ:exE s=0→∀ p H',Keeps [] H H'→Q (.tuple #[ptr p 0,i64 0]) H'):wp (z13 [.agg (x.cs s).toArray]) Q H:=by
 show wp (zbbb (.agg (x.cs s).toArray)) Q H
 have ho:=h.one
 have hsm:=h.small
 obtain⟨ul,hu,hul⟩:=h.uns
 have hn:s.uns.length=ul.length:=by rw[← hul,List.length_map]
 have hlen:=hu.out.len
 have h7:(x.cs s).length=7:=rfl
 have st:Hp H (H.push (some (.cells true (x.cs s)))) [cel H.next (x.cs s)]:=(Hp.start H).newc _
 unfold zbbb
 rw[z7,z7]
 refine (zb0 ho).mpr ?_
 generalize H.push (some (.cells true (x.cs s)))=H1 at *
 have c0:(x.cs s)[0]? = some x.pv:=rfl
 have c1:(x.cs s)[1]? = some x.gv:=rfl
 have c2:(x.cs s)[2]? = some x.qv:=rfl
 have c4:(x.cs s)[4]? = some x.wv:=rfl
 have c5:(x.cs s)[5]? = some x.uv:=rfl
 have c6:(x.cs s)[6]? = some (i64 s.millis):=rfl
 have d1:=fun Q=>zbb (n:=7) (Q:=Q) (st.get (i:=0) rfl) h7
 (try simp (maxSteps:=999999) (disch:=try exact ZD) only[ZA,zo,zn,zm,zk,zi,zj,zg,ze,d1])
 refine zblv (h.keep0 st.keeps) _ fun H2 k2=>?_
 have s2:=st.keep0 k2
 by_cases he:exE s=0
 case neg =>
  have q:=hbad he _ s2.keeps
  (try simp (maxSteps:=999999) (disch:=try exact ZD) only[ZB])
  exact q
 have hok:=zbo0 he
 rw[he]
 have g2:=s2.get (i:=0) rfl
 (try simp (maxSteps:=999999) (disch:=try exact ZD) only[ZB,zbge,g2,c4,c6])
 refine zs3 (α:=Win) (n:=3) rfl rfl rfl (s2.ro h.wins) (by omega) (by omega) _ fun wv H3 o3 k3 f3=>?_
 have s3:=s2.keep0 k3
 have ow:=o3.isOne
 have g3:=s3.get (i:=0) rfl
 have ck:zie (zes (H3.get H.next) 6) (i64 s.millis)=true:=by rw[g3];show zie ((x.cs s)[6]?) _=true;rw[c6];simp[zie,vEq]
 (try simp (maxSteps:=999999) (disch:=try exact ZD) only[ZA,zbz,zo,zn,zm,zk,zj,zg,ze])
 refine (zb0 (by simp[ow])).mpr ?_
 have s4:Hp H (H3.push (some (.cells true [.pointer none,.pointer none,.slice none 0 0,wv,i64 s.millis,i64 0]))) [cel H3.next [.pointer none,.pointer none,.slice none 0 0,wv,i64 s.millis,i64 0],cel H.next (x.cs s)]:=s3.newc _
 generalize hH4:H3.push (some (.cells true [.pointer none,.pointer none,.slice none 0 0,wv,i64 s.millis,i64 0]))=H4 at *
 have hH4':H3.push (some (.cells true [.pointer none,.pointer none,.slice none 0 0,wv,i64 s.millis,Value.int .i64 0]))=H4:=hH4
 have g4:=s4.get (i:=1) rfl
 generalize H3.next=X at *
 (try simp (maxSteps:=999999) (disch:=try exact ZD) only[ZB,ck,hH4',g4,c0,c1])
 refine zblw (s4.ro h.pts) (s4.ro h.grs) (by omega) _ (fun hb=>absurd hok.chkB hb) fun _ bl H5 _ k5 _=>?_
 have s5:=s4.keep0 k5
 have g5:=s5.get (i:=0) rfl
 have n5:=s5.ltAt (i:=0) rfl X (by simp[cel])
 have g5':=s5.get (i:=1) rfl
 (try simp (maxSteps:=999999) (disch:=try exact ZD) only[ZB,g5])
 have s6:=s5.set (i:=0) rfl [ptr bl.p 0,.pointer none,.slice none 0 0,wv,i64 s.millis,i64 0]
 simp only[List.set_cons_zero] at s6
 generalize H5.set X (some (.cells true [ptr bl.p 0,.pointer none,.slice none 0 0,wv,i64 s.millis,i64 0]))=H6 at *
 have g6:=s6.get (i:=1) rfl
 (try simp (maxSteps:=999999) (disch:=try exact ZD) only[ZB,g6,c2])
 refine zboz (s6.ro h.prs) hok.chkP _ fun bp H7 k7=>?_
 have s7:=s6.keep0 k7
 have g7:=s7.get (i:=0) rfl
 have n7:=s7.ltAt (i:=0) rfl X (by simp[cel])
 (try simp (maxSteps:=999999) (disch:=try exact ZD) only[ZB,g7])
 have s8:=s7.set (i:=0) rfl [ptr bl.p 0,ptr bp 0,.slice none 0 0,wv,i64 s.millis,i64 0]
 simp only[List.set_cons_zero] at s8
 generalize H7.set X (some (.cells true [ptr bl.p 0,ptr bp 0,.slice none 0 0,wv,i64 s.millis,i64 0]))=H8 at *
 have g8:=s8.get (i:=1) rfl
 (try simp (maxSteps:=999999) (disch:=try exact ZD) only[ZB,g8,c5,hlen])
 refine zbo ul.length (by omega) (fun j vs H'=>∃ (uv:V) (us:List Ut),vs=[ptr H.next 0,ptr X 0,x.uv,i64 ul.length,i64 j]∧us.length=j∧Hp H H' [own uv us,cel X [ptr bl.p 0,ptr bp 0,uv,wv,i64 s.millis,i64 0],cel H.next (x.cs s)]) ⟨.slice none 0 0,[],rfl,rfl,s8.nilo⟩ ?_
 rintro j vs H9 hj ⟨uv,us,rfl,hus,s9⟩
 by_cases hlt:j < ul.length
 case neg =>
  (try simp (maxSteps:=999999) (disch:=try exact ZD) only[ZB,z5l,zbgd])
  exact hQ he _ _ s9.keeps
 have hu9:=hu.keep0 s9.keeps
 have hat:=hu9.at hlt
 have hpj:s.uns.getD j default=(ul.getD j default).p:=by
  rw[← hul,List.getD_eq_getElem?_getD,List.getElem?_map,List.getD_eq_getElem?_getD,List.getElem?_eq_getElem hlt];rfl
 have hbinds:=hok.units j (by omega)
 rw[hpj] at hbinds
 have a1:=hu9.out.addr' (n:=2) rfl (k := .i64) (i:=j) (by omega) (by omega)
 rw[Int.toNat_natCast] at a1
 have e1:=fun Q=>hu9.out.ldn' (Q:=Q) (n:=2) rfl hlt default
 generalize ul.getD j default=u at *
 simp only[Un.p] at hbinds
 obtain⟨b1,b2⟩:=hbinds
 obtain⟨l1,m1⟩:=zs4 b1
 obtain⟨l2,m2⟩:=zs4 b2
 have i1:∀ b∈u.ins.xs,inB s b:=fun b hb=>z02 hok.grs (m1 b hb)
 have i2:∀ b∈u.outs.xs,inB s b:=fun b hb=>z02 hok.grs (m2 b hb)
 have hone:([u.ins.v,u.outs.v]:List V).all Value.isOne=true:=by simp[u.ins.one,u.outs.one]
 (try simp (maxSteps:=999999) (disch:=try exact ZD) only[ZA,zo,zn,zm,zk,zi,zj,zg,ze,z5l,zbgc,a1,e1,zbos])
 have sA:Hp H (H9.push (some (.cells true [u.ins.v,u.outs.v]))) [cel H9.next [u.ins.v,u.outs.v],own uv us,cel X [ptr bl.p 0,ptr bp 0,uv,wv,i64 s.millis,i64 0],cel H.next (x.cs s)]:=s9.newc _
 have kA:Keeps [] H9 (H9.push (some (.cells true [u.ins.v,u.outs.v]))):=Keeps.push _ _ _
 generalize H9.push (some (.cells true [u.ins.v,u.outs.v]))=HA at *
 have gA:=sA.get (i:=0) rfl
 have dA:=fun Q=>zbb (n:=7) (Q:=Q) (sA.get (i:=3) rfl) h7
 (try simp (maxSteps:=999999) (disch:=try exact ZD) only[ZA,zo,zn,zm,zk,zi,zj,zg,ze,gA,dA])
 refine zbvj (h.keep0 sA.keeps) (hat.1.keep0 kA) l1 i1 _ fun v1 w1 HB tB=>?_
 have sB:=sA.join tB
 simp only[List.cons_append,List.nil_append] at sB
 have kB:=tB.keeps
 have gB:=sB.get (i:=2) rfl
 have dB:=fun Q=>zbb (n:=7) (Q:=Q) (sB.get (i:=5) rfl) h7
 (try simp (maxSteps:=999999) (disch:=try exact ZD) only[ZA,zo,zn,zm,zk,zi,zj,zg,ze,gB,dB])
 refine zbvj (h.keep0 sB.keeps) ((hat.2.keep0 kA).keep0 kB) l2 i2 _ fun v2 w2 HC tC=>?_
 have sC:=sB.join tC
 simp only[List.cons_append,List.nil_append] at sC
 have hv1:=(sC.own (i:=2) rfl)
 have hv2:=(sC.own (i:=0) rfl)
 have hw1:=(sC.own (i:=3) rfl)
 have hw2:=(sC.own (i:=1) rfl)
 (try simp (maxSteps:=999999) (disch:=try exact ZD) only[ZA,zo,zn,zm,zk,zi,zj,zg,ze])
 refine zbr0 hw1.sl hw2.sl (by simpa using l1) (by simpa using l2) (fun t ht=>?_) (fun t ht=>?_) _ fun pp HD kD=>?_
 ·obtain⟨b,hb,rfl⟩:=List.mem_map.1 ht;exact zbo1 hok (i1 b hb)
 ·obtain⟨b,hb,rfl⟩:=List.mem_map.1 ht;exact zbo1 hok (i2 b hb)
 have sD:=sC.keep0 kD
 have gD:=sD.get (i:=6) rfl
 have ov1:=hv1.isOne
 have ov2:=hv2.isOne
 (try simp (maxSteps:=999999) (disch:=try exact ZD) only[ZA,zbz,zo,zn,zm,zj,zg,ze,zbga,gD])
 have hf:zbu (rep 1 [Value.pointer none,Value.slice none 0 0,Value.slice none 0 0]) [(0,3,.agg #[ptr pp 0,v1,v2])]=some (zbj ([⟨pp,⟨v1,[],ov1⟩,⟨v2,[],ov2⟩⟩]:List Ut)):=by
  show zbu _ [(0,3,.agg ([ptr pp 0,v1,v2]:List V).toArray)]=_
  rw[zk (n:=3) (by simp[ov1,ov2]) rfl (by decide),zb1]
  rfl
 refine zna (α:=Ut) (n:=3) (ys:=[⟨pp,⟨v1,[],ov1⟩,⟨v2,[],ov2⟩⟩]) sD (i:=5) rfl rfl (by decide) hf rfl (by rw[hus];omega) (by rw[hus];omega) fun uw HE sE=>?_
 simp only[List.set_cons_succ,List.set_cons_zero] at sE
 have gE:=sE.get (i:=6) rfl
 have nE:=sE.ltAt (i:=6) rfl X (by simp[cel])
 have ou:=(sE.own (i:=5) rfl).isOne
 (try simp (maxSteps:=999999) (disch:=try exact ZD) only[ZB,gE])
 have sF:=sE.set (i:=6) rfl [ptr bl.p 0,ptr bp 0,uw,wv,i64 s.millis,i64 0]
 simp only[List.set_cons_succ,List.set_cons_zero] at sF
 simp only[ou,true_and]
 generalize HE.set X (some (.cells true [ptr bl.p 0,ptr bp 0,uw,wv,i64 s.millis,i64 0]))=HF at *
 (try simp (maxSteps:=999999) (disch:=try exact ZD) only[ZB,zbgb])
 have sG:=sF.drop 5
 exact⟨hlt,uw,_,rfl,by rw[List.length_append,hus];rfl,sG⟩
end Go.AM.Cap
