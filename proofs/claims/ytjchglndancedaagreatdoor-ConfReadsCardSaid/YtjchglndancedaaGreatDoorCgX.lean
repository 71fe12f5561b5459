import Derived.Test.YtjchglndancedaaGreatDoorCgW
import Derived.Test.YtjchglndancedaaGreatDoorCfX
import Derived.Test.YtjchglndancedaaGreatDoorAmOpenF
set_option linter.all false
/- conf, the document: the executive's New, the controller's New -/
set_option maxHeartbeats 16000000
namespace Go.AM.Cap
open Go.AM Go.Proofs
structure Pp where
 p:Nat
 deriving Inhabited
instance:Flat Pp:=⟨1,fun u=>[ptr u.p 0],fun _=>rfl,fun _=>rfl,by decide⟩
theorem zbp8 {H:Heap} {x:SyV} {s:Sy} (h:SysAt H x s) (hgs:s.grs.length≤300000) (Q:V→Heap→Prop)
  (hbad:exE s≠0→∀ H',Keeps [] H H'→Q (.tuple #[.pointer none,i64 (exE s)]) H') (hQ:exE s=0→∀ p H',Keeps [] H H'→Q (.tuple #[ptr p 0,i64 0]) H'):wp (zzq [.agg (x.cs s).toArray]) Q H:=by
 show wp (z8h (.agg (x.cs s).toArray)) Q H
 have ho:=h.one
 have hsm:=h.small
 have hsame:=h.same
 obtain⟨ul,hu,hul⟩:=h.uns
 have hn:s.uns.length=ul.length:=by rw[← hul,List.length_map]
 have hlen:=hu.out.len
 have h7:(x.cs s).length=7:=rfl
 have st:Hp H (H.push (some (.cells true (x.cs s)))) [cel H.next (x.cs s)]:=(Hp.start H).newc _
 unfold z8h
 rw[z6,z6]
 refine (zby ho).mpr ?_
 generalize H.push (some (.cells true (x.cs s)))=H1 at *
 have c0:(x.cs s)[0]? = some x.pv:=rfl
 have c1:(x.cs s)[1]? = some x.gv:=rfl
 have c2:(x.cs s)[2]? = some x.qv:=rfl
 have c5:(x.cs s)[5]? = some x.uv:=rfl
 have d1:=fun Q=>z7 (n:=7) (Q:=Q) (st.get (i:=0) rfl) h7
 (try simp(maxSteps:=1000000)(disch:=first|omega|(simp only[Z3];omega)|(simp;done)|assumption|decide|(apply not_not_intro;assumption))only[ZA,zp,zo,zm,zi,zf,zg,zh,zd,d1])
 refine zbx1 (h.keep0 st.keeps) _ fun H2 k2=>?_
 have s2:=st.keep0 k2
 by_cases he:exE s=0
 case neg =>
  have q:=hbad he _ s2.keeps
  (try simp(maxSteps:=1000000)(disch:=first|omega|(simp only[Z3];omega)|(simp;done)|assumption|decide|(apply not_not_intro;assumption))only[ZB])
  exact q
 have hok:=zbu0 he
 rw[he]
 have d2:=fun Q=>z7 (n:=7) (Q:=Q) (s2.get (i:=0) rfl) h7
 have hb:build [(Value.slice none 0 0:V),Value.slice none 0 0,Value.slice none 0 0,Value.int .i64 0,Value.slice none 0 0,Value.slice none 0 0,Value.int .i64 0,Value.pointer none,Value.pointer none,Value.slice none 0 0,Value.int .i64 0] [(0,7,.agg (x.cs s).toArray)]=some (.agg [x.pv,x.gv,x.qv,i64 s.frame,x.wv,x.uv,i64 s.millis,.pointer none,.pointer none,.slice none 0 0,i64 0].toArray):=by
  rw[zm (by rfl),zi (n:=7) ho rfl (by decide),zba]
  rfl
 have ho':([x.pv,x.gv,x.qv,i64 s.frame,x.wv,x.uv,i64 s.millis]:List V).all Value.isOne=true:=ho
 have hoX:([x.pv,x.gv,x.qv,i64 s.frame,x.wv,x.uv,i64 s.millis,.pointer none,.pointer none,.slice none 0 0,i64 0]:List V).all Value.isOne=true:=by
  simpa using ho'
 (try simp(maxSteps:=1000000)(disch:=first|omega|(simp only[Z3];omega)|(simp;done)|assumption|decide|(apply not_not_intro;assumption))only[ZA,zp,zo,zi,zf,zg,zh,zd,zbfj,d2,hb])
 first | (refine (zby hoX).mpr ?_) | skip
 have s3:=s2.newc [x.pv,x.gv,x.qv,i64 s.frame,x.wv,x.uv,i64 s.millis,.pointer none,.pointer none,.slice none 0 0,i64 0]
 generalize hH3:H2.push (some (.cells true [x.pv,x.gv,x.qv,i64 s.frame,x.wv,x.uv,i64 s.millis,.pointer none,.pointer none,.slice none 0 0,i64 0]))=H3 at *
 generalize H2.next=X at *
 have g3:=s3.get (i:=1) rfl
 (try simp(maxSteps:=1000000)(disch:=first|omega|(simp only[Z3];omega)|(simp;done)|assumption|decide|(apply not_not_intro;assumption))only[ZB,g3,c0,c1])
 refine zbp4 (s3.ro h.pts) (s3.ro h.grs) hgs _ (fun hb=>absurd hok.chkB hb) fun _ bl H5 _ k5 _=>?_
 have s5:=s3.keep0 k5
 have g5:=s5.get (i:=0) rfl
 have n5:=s5.ltAt (i:=0) rfl X (by simp[cel])
 (try simp(maxSteps:=1000000)(disch:=first|omega|(simp only[Z3];omega)|(simp;done)|assumption|decide|(apply not_not_intro;assumption))only[ZB,g5])
 have s6:=s5.set (i:=0) rfl [x.pv,x.gv,x.qv,i64 s.frame,x.wv,x.uv,i64 s.millis,ptr bl.p 0,.pointer none,.slice none 0 0,i64 0]
 simp only[List.set_cons_zero] at s6
 generalize H5.set X (some (.cells true [x.pv,x.gv,x.qv,i64 s.frame,x.wv,x.uv,i64 s.millis,ptr bl.p 0,.pointer none,.slice none 0 0,i64 0]))=H6 at *
 have g6:=s6.get (i:=1) rfl
 (try simp(maxSteps:=1000000)(disch:=first|omega|(simp only[Z3];omega)|(simp;done)|assumption|decide|(apply not_not_intro;assumption))only[ZB,g6,c2])
 refine zbp6 (s6.ro h.prs) _ (fun hb=>absurd hok.chkP hb) fun _ bp w sb gs H7 _ _ k7 _=>?_
 have s7:=s6.keep0 k7
 have g7:=s7.get (i:=0) rfl
 have n7:=s7.ltAt (i:=0) rfl X (by simp[cel])
 (try simp(maxSteps:=1000000)(disch:=first|omega|(simp only[Z3];omega)|(simp;done)|assumption|decide|(apply not_not_intro;assumption))only[ZB,g7])
 have s8:=s7.set (i:=0) rfl [x.pv,x.gv,x.qv,i64 s.frame,x.wv,x.uv,i64 s.millis,ptr bl.p 0,ptr bp 0,.slice none 0 0,i64 0]
 simp only[List.set_cons_zero] at s8
 generalize H7.set X (some (.cells true [x.pv,x.gv,x.qv,i64 s.frame,x.wv,x.uv,i64 s.millis,ptr bl.p 0,ptr bp 0,.slice none 0 0,i64 0]))=H8 at *
 refine zbt ul.length (by omega) (fun j vs H'=>∃ (pl:V) (ps:List Pp),vs=[ptr H.next 0,ptr X 0,i64 j]∧ps.length=j∧Hp H H' [own pl ps,cel X [x.pv,x.gv,x.qv,i64 s.frame,x.wv,x.uv,i64 s.millis,ptr bl.p 0,ptr bp 0,pl,i64 0],cel H.next (x.cs s)]) ⟨.slice none 0 0,[],rfl,rfl,s8.nilo⟩ ?_
 rintro j vs H9 hj ⟨pl,ps,rfl,hps,s9⟩
 have g9:=s9.get (i:=2) rfl
 by_cases hlt:j < ul.length
 case neg =>
  (try simp(maxSteps:=1000000)(disch:=first|omega|(simp only[Z3];omega)|(simp;done)|assumption|decide|(apply not_not_intro;assumption))only[ZB,z3u,g9,c5,hlen,zbfi])
  exact hQ he _ _ s9.keeps
 have hu9:=hu.keep0 s9.keeps
 have hat:=hu9.at hlt
 have hpj:s.uns.getD j default=(ul.getD j default).p:=by
  rw[← hul,List.getD_eq_getElem?_getD,List.getElem?_map,List.getD_eq_getElem?_getD,List.getElem?_eq_getElem hlt];rfl
 have hbinds:=hok.units j (by omega)
 rw[hpj] at hbinds
 have a1:=hu9.out.addr' (n:=2) rfl (k := .i64) (i:=j) (by omega) (by omega)
 rw[Int.toNat_natCast] at a1
 have e0:=hu9.out.cell' (n:=2) rfl (off:=0) hlt (by omega) default
 have e1:=hu9.out.cell' (n:=2) rfl (off:=1) hlt (by omega) default
 have e1':=fun {K:Heap} (hK:Keeps [] H9 K)=>(hu9.out.keep0 hK).cell' (n:=2) rfl (off:=1) hlt (by omega) default
 simp only[zbj] at e0 e1 e1'
 have f0:(Flat.enc (ul.getD j default))[0]? = some (ul.getD j default).ins.v:=rfl
 have f1:(Flat.enc (ul.getD j default))[1]? = some (ul.getD j default).outs.v:=rfl
 rw[f0,Nat.add_zero] at e0
 rw[f1] at e1 e1'
 generalize ul.getD j default=u at *
 simp only[Un.p] at hbinds
 obtain⟨b1,b2⟩:=hbinds
 obtain⟨l1,m1⟩:=z33 b1
 obtain⟨l2,m2⟩:=z33 b2
 have i1:∀ b∈u.ins.xs,inB s b:=fun b hb=>zbfv hok.grs (m1 b hb)
 have i2:∀ b∈u.outs.xs,inB s b:=fun b hb=>zbfv hok.grs (m2 b hb)
 have d9:=fun Q=>z7 (n:=7) (Q:=Q) g9 h7
 (try simp(maxSteps:=1000000)(disch:=first|omega|(simp only[Z3];omega)|(simp;done)|assumption|decide|(apply not_not_intro;assumption))only[ZA,zp,zo,zm,zi,zf,zg,zh,zd,z3u,zbfh,g9,c5,hlen,a1,e0,e1,d9])
 refine zbny (h.keep0 s9.keeps) hat.1 l1 i1 _ fun w1 HB tB=>?_
 have sB:=s9.join tB
 simp only[List.cons_append,List.nil_append] at sB
 have kB:=tB.keeps
 have gB:=sB.get (i:=3) rfl
 have ck1:chk (ldn 7 (ptr H.next 0)) HB (.agg (x.cs s).toArray)=true:=zbpo gB h7 hsame
 have ck2:zgm (zdk (HB.get H.next) 5) x.uv=true:=by rw[gB];exact zen hu.out
 have ck3:zgm (zdk (HB.get (slB x.uv)) (slO x.uv + j * 2 + 1)) u.outs.v=true:=by rw[e1' kB];exact zen hat.2
 (try simp(maxSteps:=1000000)(disch:=first|omega|(simp only[Z3];omega)|(simp;done)|assumption|decide|(apply not_not_intro;assumption))only[ZA,zp,zo,zm,zi,zf,zg,zh,zd])
 refine zbny (h.keep0 sB.keeps) (hat.2.keep0 kB) l2 i2 _ fun w2 HC tC=>?_
 have sC:=sB.join tC
 simp only[List.cons_append,List.nil_append] at sC
 have hw1:=(sC.own (i:=1) rfl)
 have hw2:=(sC.own (i:=0) rfl)
 (try simp(maxSteps:=1000000)(disch:=first|omega|(simp only[Z3];omega)|(simp;done)|assumption|decide|(apply not_not_intro;assumption))only[ZA,zp,zo,zm,zi,zf,zg,zh,zd])
 refine zbp7 hw1.sl hw2.sl (by simpa using l1) (by simpa using l2) (fun t ht=>?_) (fun t ht=>?_) _ fun pp HD kD=>?_
 ·obtain⟨b,hb,rfl⟩:=List.mem_map.1 ht;exact zbpu hok (i1 b hb)
 ·obtain⟨b,hb,rfl⟩:=List.mem_map.1 ht;exact zbpu hok (i2 b hb)
 have sD:=(sC.keep0 kD).drop 2
 simp only[List.drop_succ_cons,List.drop_zero] at sD
 have gD:=sD.get (i:=1) rfl
 (try simp(maxSteps:=1000000)(disch:=first|omega|(simp only[Z3];omega)|(simp;done)|assumption|decide|(apply not_not_intro;assumption))only[ZA,zp,zo,zm,zi,zf,zg,zh,ck1,ck2,ck3,gD])
 have hf:zbn (rep 1 [Value.pointer none]) [(0,1,ptr pp 0)]=some (zbm ([⟨pp⟩]:List Pp)):=by
  show zbn [Value.pointer none] _=_
  rw[zd rfl (by decide),zba]
  rfl
 refine zf5 (α:=Pp) (n:=1) (ys:=[⟨pp⟩]) sD (i:=0) rfl rfl (by decide) hf rfl (by rw[hps];omega) (by rw[hps];omega) fun uw HE sE=>?_
 simp only[List.set_cons_zero] at sE
 have gE:=sE.get (i:=1) rfl
 have nE:=sE.ltAt (i:=1) rfl X (by simp[cel])
 have ou:=(sE.own (i:=0) rfl).isOne
 (try simp(maxSteps:=1000000)(disch:=first|omega|(simp only[Z3];omega)|(simp;done)|assumption|decide|(apply not_not_intro;assumption))only[ZB,gE])
 have sF:=sE.set (i:=1) rfl [x.pv,x.gv,x.qv,i64 s.frame,x.wv,x.uv,i64 s.millis,ptr bl.p 0,ptr bp 0,uw,i64 0]
 simp only[List.set_cons_succ,List.set_cons_zero] at sF
 simp only[ou,true_and]
 generalize HE.set X (some (.cells true [x.pv,x.gv,x.qv,i64 s.frame,x.wv,x.uv,i64 s.millis,ptr bl.p 0,ptr bp 0,uw,i64 0]))=HF at *
 (try simp(maxSteps:=1000000)(disch:=first|omega|(simp only[Z3];omega)|(simp;done)|assumption|decide|(apply not_not_intro;assumption))only[ZB,zbfg])
 exact⟨hlt,uw,_,rfl,by rw[List.length_append,hps];rfl,sF⟩
theorem zbte {H:Heap} {x:SyV} {s:Sy} {v:V} {l:List Us} {us:List PUs} (h:SysAt H x s) (hgs:s.grs.length≤300000) (hv:Users H v l) (hp:l.map Us.p=us) (idle:Int) (Q:V→Heap→Prop)
  (hQ:∀ a H',Keeps [] H H'→Q (.tuple #[a,i64 (z34 s us idle)]) H'):wp (zzs [.agg (x.cs s).toArray,v,i64 idle]) Q H:=by
 show wp (z8u (.agg (x.cs s).toArray) v (i64 idle)) Q H
 subst hp
 have ho:=h.one
 have hsm:=h.small
 obtain⟨ul,hu,hul⟩:=h.uns
 have hn:s.uns.length=ul.length:=by rw[← hul,List.length_map]
 have hlen:=hu.out.len
 have h7:(x.cs s).length=7:=rfl
 have st:Hp H (H.push (some (.cells true (x.cs s)))) [cel H.next (x.cs s)]:=(Hp.start H).newc _
 unfold z8u
 rw[z6,z6]
 refine (zby ho).mpr ?_
 generalize H.push (some (.cells true (x.cs s)))=H1 at *
 have c4:(x.cs s)[4]? = some x.wv:=rfl
 have c5:(x.cs s)[5]? = some x.uv:=rfl
 have d1:=fun Q=>z7 (n:=7) (Q:=Q) (st.get (i:=0) rfl) h7
 rw[z6,d1,z6]
 unfold z34 at hQ
 refine zbp8 (h.keep0 st.keeps) hgs _ (fun he H2 k2=>?_) fun he xp H2 k2=>?_
 ·have s2:=st.keep0 k2
  have q:=hQ (.pointer none) _ s2.keeps
  rw[if_pos he] at q
  (try simp(maxSteps:=1000000)(disch:=first|omega|(simp only[Z3];omega)|(simp;done)|assumption|decide|(apply not_not_intro;assumption))only[ZB])
  exact q
 have s2:=st.keep0 k2
 rw[if_neg (by simp[he]),zbsq,hn] at hQ
 have g2:=s2.get (i:=0) rfl
 (try simp(maxSteps:=1000000)(disch:=first|omega|(simp only[Z3];omega)|(simp;done)|assumption|decide|(apply not_not_intro;assumption))only[ZB,zbfn,g2,c5,hlen])
 refine zbx5 (hv.keep0 s2.keeps) (ul.length:Int) idle _ (fun hb H3 k3=>?_) (fun hb hi H3 k3=>?_) fun hb hi dp H3 k3=>?_
 ·have q:=hQ (.pointer none) _ (s2.keep0 k3).keeps
  rw[if_pos hb] at q
  (try simp(maxSteps:=1000000)(disch:=first|omega|(simp only[Z3];omega)|(simp;done)|assumption|decide|(apply not_not_intro;assumption))only[ZB])
  exact q
 ·have q:=hQ (.pointer none) _ (s2.keep0 k3).keeps
  rw[if_neg (by simp[hb]),if_pos hi] at q
  (try simp(maxSteps:=1000000)(disch:=first|omega|(simp only[Z3];omega)|(simp;done)|assumption|decide|(apply not_not_intro;assumption))only[ZB])
  exact q
 rw[if_neg (by simp[hb]),if_neg hi] at hQ
 have s3:=s2.keep0 k3
 have g3:=s3.get (i:=0) rfl
 have s5:=s3.newc [ptr xp 0,ptr dp 0,i64 0,i64 0,i64 0,.slice none 0 0]
 have hwl:=h.wins.len
 (try simp(maxSteps:=1000000)(disch:=first|omega|(simp only[Z3];omega)|(simp;done)|assumption|decide|(apply not_not_intro;assumption))only[ZB,zbfm])
 generalize H3.next=X at *
 generalize H3.push (some (.cells true [ptr xp 0,ptr dp 0,i64 0,i64 0,i64 0,.slice none 0 0]))=H5 at *
 refine zbt s.wins.length (by omega) (fun j vs H'=>∃ n:Int,vs=[ptr H.next 0,ptr X 0,i64 j]∧Hp H H' [cel X [ptr xp 0,ptr dp 0,i64 0,i64 0,i64 n,.slice none 0 0],cel H.next (x.cs s)]) ⟨0,rfl,s5⟩ ?_
 rintro k vs H8 hk2 ⟨n,rfl,s8⟩
 have g8:=s8.get (i:=1) rfl
 by_cases hlt3:k < s.wins.length
 ·have h8':=s8.ro h.wins
  have a1:=h8'.addr' (n:=3) rfl (k := .i64) (i:=k) (by omega) (by omega)
  rw[Int.toNat_natCast] at a1
  have e0:=h8'.cell' (n:=3) rfl (off:=0) hlt3 (by omega) default
  have e1:=h8'.cell' (n:=3) rfl (off:=2) hlt3 (by omega) default
  rw[zbj] at e0 e1
  have f0:(Flat.enc (s.wins.getD k default))[0]? = some (i64 (s.wins.getD k default).part):=rfl
  have f1:(Flat.enc (s.wins.getD k default))[2]? = some (i64 (s.wins.getD k default).len):=rfl
  rw[f0,Nat.add_zero] at e0
  rw[f1] at e1
  generalize s.wins.getD k default=y at *
  have g9:=s8.get (i:=0) rfl
  have n9:=s8.ltAt (i:=0) rfl X (by simp[cel])
  by_cases hy:y.part = -1
  ·have hx:decide (y.part = -1)=true:=decide_eq_true hy
   (try simp(maxSteps:=1000000)(disch:=first|omega|(simp only[Z3];omega)|(simp;done)|assumption|decide|(apply not_not_intro;assumption))only[ZB,zwa,g8,c4,hwl,z3x,a1,e0,e1,hx,g9])
   have sA:=s8.set (i:=0) rfl [ptr xp 0,ptr dp 0,i64 0,i64 0,i64 y.len,.slice none 0 0]
   simp only[List.set_cons_zero] at sA
   generalize H8.set X (some (.cells true [ptr xp 0,ptr dp 0,i64 0,i64 0,i64 y.len,.slice none 0 0]))=HA at *
   (try simp(maxSteps:=1000000)(disch:=first|omega|(simp only[Z3];omega)|(simp;done)|assumption|decide|(apply not_not_intro;assumption))only[ZB,z3w])
   exact⟨hlt3,y.len,rfl,sA⟩
  ·have hx:decide (y.part = -1)=false:=decide_eq_false hy
   (try simp(maxSteps:=1000000)(disch:=first|omega|(simp only[Z3];omega)|(simp;done)|assumption|decide|(apply not_not_intro;assumption))only[ZB,zwa,g8,c4,hwl,z3x,a1,e0,e1,hx,z3w])
   exact⟨hlt3,n,rfl,s8⟩
 (try simp(maxSteps:=1000000)(disch:=first|omega|(simp only[Z3];omega)|(simp;done)|assumption|decide|(apply not_not_intro;assumption))only[ZB,zwa,g8,c4,hwl,zbfl])
 exact hQ _ _ s8.keeps
end Go.AM.Cap
