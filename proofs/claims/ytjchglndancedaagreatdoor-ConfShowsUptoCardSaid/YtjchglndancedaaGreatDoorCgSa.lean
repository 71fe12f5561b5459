import Derived.Test.YtjchglndancedaaGreatDoorCgW
import Derived.Test.YtjchglndancedaaGreatDoorCfZ
import Derived.Test.YtjchglndancedaaGreatDoorAmIn
import Derived.Test.YtjchglndancedaaGreatDoorCgM
set_option linter.all false
/- conf, the document: the executive's New, the controller's New -/
set_option maxHeartbeats 16000000
namespace Go.AM.Cap
open Go.AM Go.Proofs
structure Pp where
 p:Nat
 deriving Inhabited
instance:Flat Pp:=⟨1,fun u=>[ptr u.p 0],fun _=>rfl,fun _=>rfl,by decide⟩
theorem zbpg {H:Heap} {x:SyV} {s:Sy} (h:SysAt H x s) (hgs:s.grs.length≤300000) (Q:V→Heap→Prop)
  (hbad:exE s≠0→∀ H',Keeps [] H H'→Q (.tuple #[.pointer none,i64 (exE s)]) H') (hQ:exE s=0→∀ p H',Keeps [] H H'→Q (.tuple #[ptr p 0,i64 0]) H'):wp (zyo [.agg (x.cs s).toArray]) Q H:=by
 show wp (z6w (.agg (x.cs s).toArray)) Q H
 have ho:=h.one
 have hsm:=h.small
 have hsame:=h.same
 obtain⟨ul,hu,hul⟩:=h.uns
 have hn:s.uns.length=ul.length:=by rw[← hul,List.length_map]
 have hlen:=hu.out.len
 have h7:(x.cs s).length=7:=rfl
 have st:Hp H (H.push (some (.cells true (x.cs s)))) [cel H.next (x.cs s)]:=(Hp.start H).newc _
 unfold z6w
 rw[z7,z7]
 refine (zb0 ho).mpr ?_
 generalize H.push (some (.cells true (x.cs s)))=H1 at *
 have c0:(x.cs s)[0]? = some x.pv:=rfl
 have c1:(x.cs s)[1]? = some x.gv:=rfl
 have c2:(x.cs s)[2]? = some x.qv:=rfl
 have c5:(x.cs s)[5]? = some x.uv:=rfl
 have d1:=fun Q=>zbb (n:=7) (Q:=Q) (st.get (i:=0) rfl) h7
 (try simp (maxSteps:=999999) (disch:=try exact ZD) only[ZA,zo,zn,zm,zk,zi,zj,zg,ze,d1])
 refine zbx9 (h.keep0 st.keeps) _ fun H2 k2=>?_
 have s2:=st.keep0 k2
 by_cases he:exE s=0
 case neg =>
  have q:=hbad he _ s2.keeps
  (try simp (maxSteps:=999999) (disch:=try exact ZD) only[ZB])
  exact q
 have hok:=zbo0 he
 rw[he]
 have d2:=fun Q=>zbb (n:=7) (Q:=Q) (s2.get (i:=0) rfl) h7
 have hb:build [(Value.slice none 0 0:V),Value.slice none 0 0,Value.slice none 0 0,Value.int .i64 0,Value.slice none 0 0,Value.slice none 0 0,Value.int .i64 0,Value.pointer none,Value.pointer none,Value.slice none 0 0,Value.int .i64 0] [(0,7,.agg (x.cs s).toArray)]=some (.agg [x.pv,x.gv,x.qv,i64 s.frame,x.wv,x.uv,i64 s.millis,.pointer none,.pointer none,.slice none 0 0,i64 0].toArray):=by
  rw[zm (by rfl),zk (n:=7) ho rfl (by decide),zb1]
  rfl
 have ho':([x.pv,x.gv,x.qv,i64 s.frame,x.wv,x.uv,i64 s.millis]:List V).all Value.isOne=true:=ho
 have hoX:([x.pv,x.gv,x.qv,i64 s.frame,x.wv,x.uv,i64 s.millis,.pointer none,.pointer none,.slice none 0 0,i64 0]:List V).all Value.isOne=true:=by
  simpa using ho'
 (try simp (maxSteps:=999999) (disch:=try exact ZD) only[ZA,zo,zn,zk,zi,zj,zg,ze,zbdq,d2,hb])
 first | (refine (zb0 hoX).mpr ?_) | skip
 have s3:=s2.newc [x.pv,x.gv,x.qv,i64 s.frame,x.wv,x.uv,i64 s.millis,.pointer none,.pointer none,.slice none 0 0,i64 0]
 generalize hH3:H2.push (some (.cells true [x.pv,x.gv,x.qv,i64 s.frame,x.wv,x.uv,i64 s.millis,.pointer none,.pointer none,.slice none 0 0,i64 0]))=H3 at *
 generalize H2.next=X at *
 have g3:=s3.get (i:=1) rfl
 (try simp (maxSteps:=999999) (disch:=try exact ZD) only[ZB,g3,c0,c1])
 refine zbpc (s3.ro h.pts) (s3.ro h.grs) hgs _ (fun hb=>absurd hok.chkB hb) fun _ bl H5 _ k5 _=>?_
 have s5:=s3.keep0 k5
 have g5:=s5.get (i:=0) rfl
 have n5:=s5.ltAt (i:=0) rfl X (by simp[cel])
 (try simp (maxSteps:=999999) (disch:=try exact ZD) only[ZB,g5])
 have s6:=s5.set (i:=0) rfl [x.pv,x.gv,x.qv,i64 s.frame,x.wv,x.uv,i64 s.millis,ptr bl.p 0,.pointer none,.slice none 0 0,i64 0]
 simp only[List.set_cons_zero] at s6
 generalize H5.set X (some (.cells true [x.pv,x.gv,x.qv,i64 s.frame,x.wv,x.uv,i64 s.millis,ptr bl.p 0,.pointer none,.slice none 0 0,i64 0]))=H6 at *
 have g6:=s6.get (i:=1) rfl
 (try simp (maxSteps:=999999) (disch:=try exact ZD) only[ZB,g6,c2])
 refine zbpe (s6.ro h.prs) _ (fun hb=>absurd hok.chkP hb) fun _ bp w sb gs H7 _ _ k7 _=>?_
 have s7:=s6.keep0 k7
 have g7:=s7.get (i:=0) rfl
 have n7:=s7.ltAt (i:=0) rfl X (by simp[cel])
 (try simp (maxSteps:=999999) (disch:=try exact ZD) only[ZB,g7])
 have s8:=s7.set (i:=0) rfl [x.pv,x.gv,x.qv,i64 s.frame,x.wv,x.uv,i64 s.millis,ptr bl.p 0,ptr bp 0,.slice none 0 0,i64 0]
 simp only[List.set_cons_zero] at s8
 generalize H7.set X (some (.cells true [x.pv,x.gv,x.qv,i64 s.frame,x.wv,x.uv,i64 s.millis,ptr bl.p 0,ptr bp 0,.slice none 0 0,i64 0]))=H8 at *
 refine zbo ul.length (by omega) (fun j vs H'=>∃ (pl:V) (ps:List Pp),vs=[ptr H.next 0,ptr X 0,i64 j]∧ps.length=j∧Hp H H' [own pl ps,cel X [x.pv,x.gv,x.qv,i64 s.frame,x.wv,x.uv,i64 s.millis,ptr bl.p 0,ptr bp 0,pl,i64 0],cel H.next (x.cs s)]) ⟨.slice none 0 0,[],rfl,rfl,s8.nilo⟩ ?_
 rintro j vs H9 hj ⟨pl,ps,rfl,hps,s9⟩
 have g9:=s9.get (i:=2) rfl
 by_cases hlt:j < ul.length
 case neg =>
  (try simp (maxSteps:=999999) (disch:=try exact ZD) only[ZB,z2a,g9,c5,hlen,zbdp])
  exact hQ he _ _ s9.keeps
 have hu9:=hu.keep0 s9.keeps
 have hat:=hu9.at hlt
 have hpj:s.uns.getD j default=(ul.getD j default).p:=by
  rw[← hul,List.getD_eq_getElem?_getD,List.getElem?_map,List.getD_eq_getElem?_getD,List.getElem?_eq_getElem hlt];rfl
 have hbinds:=hok.units j (by omega)
 rw[hpj] at hbinds
 have a1:=hu9.out.addr' (n:=2) rfl (k := .i64) (i:=j) (by omega) (by omega)
 rw[Int.toNat_natCast] at a1
 have e0:=hu9.out.cell' (n:=2) rfl (off:=0) hlt (by omega) default
 have e1:=hu9.out.cell' (n:=2) rfl (off:=1) hlt (by omega) default
 have e1':=fun {K:Heap} (hK:Keeps [] H9 K)=>(hu9.out.keep0 hK).cell' (n:=2) rfl (off:=1) hlt (by omega) default
 simp only[zbd] at e0 e1 e1'
 have f0:(Flat.enc (ul.getD j default))[0]? = some (ul.getD j default).ins.v:=rfl
 have f1:(Flat.enc (ul.getD j default))[1]? = some (ul.getD j default).outs.v:=rfl
 rw[f0,Nat.add_zero] at e0
 rw[f1] at e1 e1'
 generalize ul.getD j default=u at *
 simp only[Un.p] at hbinds
 obtain⟨b1,b2⟩:=hbinds
 obtain⟨l1,m1⟩:=zs4 b1
 obtain⟨l2,m2⟩:=zs4 b2
 have i1:∀ b∈u.ins.xs,inB s b:=fun b hb=>z02 hok.grs (m1 b hb)
 have i2:∀ b∈u.outs.xs,inB s b:=fun b hb=>z02 hok.grs (m2 b hb)
 have d9:=fun Q=>zbb (n:=7) (Q:=Q) g9 h7
 (try simp (maxSteps:=999999) (disch:=try exact ZD) only[ZA,zo,zn,zm,zk,zi,zj,zg,ze,z2a,zbdo,g9,c5,hlen,a1,e0,e1,d9])
 refine zbm8 (h.keep0 s9.keeps) hat.1 l1 i1 _ fun w1 HB tB=>?_
 have sB:=s9.join tB
 simp only[List.cons_append,List.nil_append] at sB
 have kB:=tB.keeps
 have gB:=sB.get (i:=3) rfl
 have ck1:chk (ldn 7 (ptr H.next 0)) HB (.agg (x.cs s).toArray)=true:=zbou gB h7 hsame
 have ck2:zie (zes (HB.get H.next) 5) x.uv=true:=by rw[gB];exact zi3 hu.out
 have ck3:zie (zes (HB.get (slB x.uv)) (slO x.uv + j * 2 + 1)) u.outs.v=true:=by rw[e1' kB];exact zi3 hat.2
 (try simp (maxSteps:=999999) (disch:=try exact ZD) only[ZA,zo,zn,zm,zk,zi,zj,zg,ze])
 refine zbm8 (h.keep0 sB.keeps) (hat.2.keep0 kB) l2 i2 _ fun w2 HC tC=>?_
 have sC:=sB.join tC
 simp only[List.cons_append,List.nil_append] at sC
 have hw1:=(sC.own (i:=1) rfl)
 have hw2:=(sC.own (i:=0) rfl)
 (try simp (maxSteps:=999999) (disch:=try exact ZD) only[ZA,zo,zn,zm,zk,zi,zj,zg,ze])
 refine zbpf hw1.sl hw2.sl (by simpa using l1) (by simpa using l2) (fun t ht=>?_) (fun t ht=>?_) _ fun pp HD kD=>?_
 ·obtain⟨b,hb,rfl⟩:=List.mem_map.1 ht;exact zbo1 hok (i1 b hb)
 ·obtain⟨b,hb,rfl⟩:=List.mem_map.1 ht;exact zbo1 hok (i2 b hb)
 have sD:=(sC.keep0 kD).drop 2
 simp only[List.drop_succ_cons,List.drop_zero] at sD
 have gD:=sD.get (i:=1) rfl
 (try simp (maxSteps:=999999) (disch:=try exact ZD) only[ZA,zo,zn,zm,zk,zi,zj,zg,ck1,ck2,ck3,gD])
 have hf:zbu (rep 1 [Value.pointer none]) [(0,1,ptr pp 0)]=some (zbj ([⟨pp⟩]:List Pp)):=by
  show zbu [Value.pointer none] _=_
  rw[ze rfl (by decide),zb1]
  rfl
 refine zna (α:=Pp) (n:=1) (ys:=[⟨pp⟩]) sD (i:=0) rfl rfl (by decide) hf rfl (by rw[hps];omega) (by rw[hps];omega) fun uw HE sE=>?_
 simp only[List.set_cons_zero] at sE
 have gE:=sE.get (i:=1) rfl
 have nE:=sE.ltAt (i:=1) rfl X (by simp[cel])
 have ou:=(sE.own (i:=0) rfl).isOne
 (try simp (maxSteps:=999999) (disch:=try exact ZD) only[ZB,gE])
 have sF:=sE.set (i:=1) rfl [x.pv,x.gv,x.qv,i64 s.frame,x.wv,x.uv,i64 s.millis,ptr bl.p 0,ptr bp 0,uw,i64 0]
 simp only[List.set_cons_succ,List.set_cons_zero] at sF
 simp only[ou,true_and]
 generalize HE.set X (some (.cells true [x.pv,x.gv,x.qv,i64 s.frame,x.wv,x.uv,i64 s.millis,ptr bl.p 0,ptr bp 0,uw,i64 0]))=HF at *
 (try simp (maxSteps:=999999) (disch:=try exact ZD) only[ZB,zbdn])
 exact⟨hlt,uw,_,rfl,by rw[List.length_append,hps];rfl,sF⟩
theorem zbsx {H:Heap} {x:SyV} {s:Sy} {v:V} {l:List Us} {us:List PUs} (h:SysAt H x s) (hgs:s.grs.length≤300000) (hv:Users H v l) (hp:l.map Us.p=us) (idle:Int) (Q:V→Heap→Prop)
  (hQ:∀ a H',Keeps [] H H'→Q (.tuple #[a,i64 (zvo s us idle)]) H'):wp (zyq [.agg (x.cs s).toArray,v,i64 idle]) Q H:=by
 show wp (z69 (.agg (x.cs s).toArray) v (i64 idle)) Q H
 subst hp
 have ho:=h.one
 have hsm:=h.small
 obtain⟨ul,hu,hul⟩:=h.uns
 have hn:s.uns.length=ul.length:=by rw[← hul,List.length_map]
 have hlen:=hu.out.len
 have h7:(x.cs s).length=7:=rfl
 have st:Hp H (H.push (some (.cells true (x.cs s)))) [cel H.next (x.cs s)]:=(Hp.start H).newc _
 unfold z69
 rw[z7,z7]
 refine (zb0 ho).mpr ?_
 generalize H.push (some (.cells true (x.cs s)))=H1 at *
 have c4:(x.cs s)[4]? = some x.wv:=rfl
 have c5:(x.cs s)[5]? = some x.uv:=rfl
 have d1:=fun Q=>zbb (n:=7) (Q:=Q) (st.get (i:=0) rfl) h7
 rw[z7,d1,z7]
 unfold zvo at hQ
 refine zbpg (h.keep0 st.keeps) hgs _ (fun he H2 k2=>?_) fun he xp H2 k2=>?_
 ·have s2:=st.keep0 k2
  have q:=hQ (.pointer none) _ s2.keeps
  rw[if_pos he] at q
  (try simp (maxSteps:=999999) (disch:=try exact ZD) only[ZB])
  exact q
 have s2:=st.keep0 k2
 rw[if_neg (by simp[he]),zbr2,hn] at hQ
 have g2:=s2.get (i:=0) rfl
 (try simp (maxSteps:=999999) (disch:=try exact ZD) only[ZB,zbdu,g2,c5,hlen])
 refine zbyd (hv.keep0 s2.keeps) (ul.length:Int) idle _ (fun hb H3 k3=>?_) (fun hb hi H3 k3=>?_) fun hb hi dp H3 k3=>?_
 ·have q:=hQ (.pointer none) _ (s2.keep0 k3).keeps
  rw[if_pos hb] at q
  (try simp (maxSteps:=999999) (disch:=try exact ZD) only[ZB])
  exact q
 ·have q:=hQ (.pointer none) _ (s2.keep0 k3).keeps
  rw[if_neg (by simp[hb]),if_pos hi] at q
  (try simp (maxSteps:=999999) (disch:=try exact ZD) only[ZB])
  exact q
 rw[if_neg (by simp[hb]),if_neg hi] at hQ
 have s3:=s2.keep0 k3
 have g3:=s3.get (i:=0) rfl
 have s5:=s3.newc [ptr xp 0,ptr dp 0,i64 0,i64 0,i64 0,.slice none 0 0]
 have hwl:=h.wins.len
 (try simp (maxSteps:=999999) (disch:=try exact ZD) only[ZB,zbdt])
 generalize H3.next=X at *
 generalize H3.push (some (.cells true [ptr xp 0,ptr dp 0,i64 0,i64 0,i64 0,.slice none 0 0]))=H5 at *
 refine zbo s.wins.length (by omega) (fun j vs H'=>∃ n:Int,vs=[ptr H.next 0,ptr X 0,i64 j]∧Hp H H' [cel X [ptr xp 0,ptr dp 0,i64 0,i64 0,i64 n,.slice none 0 0],cel H.next (x.cs s)]) ⟨0,rfl,s5⟩ ?_
 rintro k vs H8 hk2 ⟨n,rfl,s8⟩
 have g8:=s8.get (i:=1) rfl
 by_cases hlt3:k < s.wins.length
 ·have h8':=s8.ro h.wins
  have a1:=h8'.addr' (n:=3) rfl (k := .i64) (i:=k) (by omega) (by omega)
  rw[Int.toNat_natCast] at a1
  have e0:=h8'.cell' (n:=3) rfl (off:=0) hlt3 (by omega) default
  have e1:=h8'.cell' (n:=3) rfl (off:=2) hlt3 (by omega) default
  rw[zbd] at e0 e1
  have f0:(Flat.enc (s.wins.getD k default))[0]? = some (i64 (s.wins.getD k default).part):=rfl
  have f1:(Flat.enc (s.wins.getD k default))[2]? = some (i64 (s.wins.getD k default).len):=rfl
  rw[f0,Nat.add_zero] at e0
  rw[f1] at e1
  generalize s.wins.getD k default=y at *
  have g9:=s8.get (i:=0) rfl
  have n9:=s8.ltAt (i:=0) rfl X (by simp[cel])
  by_cases hy:y.part = -1
  ·have hx:decide (y.part = -1)=true:=decide_eq_true hy
   (try simp (maxSteps:=999999) (disch:=try exact ZD) only[ZB,zvm,g8,c4,hwl,z2d,a1,e0,e1,hx,g9])
   have sA:=s8.set (i:=0) rfl [ptr xp 0,ptr dp 0,i64 0,i64 0,i64 y.len,.slice none 0 0]
   simp only[List.set_cons_zero] at sA
   generalize H8.set X (some (.cells true [ptr xp 0,ptr dp 0,i64 0,i64 0,i64 y.len,.slice none 0 0]))=HA at *
   (try simp (maxSteps:=999999) (disch:=try exact ZD) only[ZB,z2c])
   exact⟨hlt3,y.len,rfl,sA⟩
  ·have hx:decide (y.part = -1)=false:=decide_eq_false hy
   (try simp (maxSteps:=999999) (disch:=try exact ZD) only[ZB,zvm,g8,c4,hwl,z2d,a1,e0,e1,hx,z2c])
   exact⟨hlt3,n,rfl,s8⟩
 (try simp (maxSteps:=999999) (disch:=try exact ZD) only[ZB,zvm,g8,c4,hwl,zbds])
 exact hQ _ _ s8.keeps
end Go.AM.Cap

/- conf, the document's Show: its writer; a line; zuj; words of types and levels -/
set_option maxHeartbeats 8000000
namespace Go.AM.Cap
open Go.AM Go.Proofs
variable {H0 H:Heap} {L:List Thing}
def dwr (W:Nat) (v:V) (l:List UInt8):Thing :=
 ⟨W :: vb v,fun H=>H.get W=some (.cells true [v])∧zh7 H v (tb l)∧W ∉ vb v,
  fun hn h p=>⟨by rw[h W (by simp)];exact p.1,(own v (tb l)).loc hn (fun b hb=>h b (List.mem_cons_of_mem _ hb)) p.2.1,p.2.2⟩,
  fun p b hb=>by
  rcases List.mem_cons.1 hb with rfl | hb
  ·exact Heap.get_lt p.1
  ·exact p.2.1.lt b hb⟩
theorem zbv7 {W:Nat} {v:V} {l:List UInt8} (h:Hp H0 H (dwr W v l :: L)):Hp H0 H (cel W [v] :: own v (tb l) :: L):=by
 obtain⟨p1,p2,p3⟩:=h.head
 have n1:=h.new (dwr W v l) (by simp)
 obtain⟨q1,q2⟩:=List.pairwise_cons.1 h.apart
 refine⟨h.keeps,?_,?_,List.pairwise_cons.2 ⟨?_,List.pairwise_cons.2 ⟨?_,q2⟩⟩⟩
 ·intro t ht b hb
  rcases List.mem_cons.1 ht with rfl | ht
  ·have hbW:b=W:=by simpa[cel] using hb
   subst hbW
   exact n1 b List.mem_cons_self
  ·rcases List.mem_cons.1 ht with rfl | ht
   ·exact n1 b (List.mem_cons_of_mem _ hb)
   ·exact h.new t (List.mem_cons_of_mem _ ht) b hb
 ·intro t ht
  rcases List.mem_cons.1 ht with rfl | ht
  ·exact p1
  ·rcases List.mem_cons.1 ht with rfl | ht
   ·exact p2
   ·exact h.all t (List.mem_cons_of_mem _ ht)
 ·intro t ht b hb hb'
  have:b=W:=by simpa[cel] using hb
  subst this
  rcases List.mem_cons.1 ht with rfl | ht
  ·exact p3 hb'
  ·exact q1 t ht b List.mem_cons_self hb'
 ·intro t ht b hb
  exact q1 t ht b (List.mem_cons_of_mem _ hb)
theorem zbsy {W:Nat} {v:V} {l:List UInt8} (h:Hp H0 H (cel W [v] :: own v (tb l) :: L)):Hp H0 H (dwr W v l :: L):=by
 obtain⟨q1,q2⟩:=List.pairwise_cons.1 h.apart
 obtain⟨q3,q4⟩:=List.pairwise_cons.1 q2
 have hm:W∈(cel W [v]).fp:=by simp[cel]
 refine⟨h.keeps,?_,?_,List.pairwise_cons.2 ⟨?_,q4⟩⟩
 ·intro t ht b hb
  rcases List.mem_cons.1 ht with rfl | ht
  ·rcases List.mem_cons.1 hb with rfl | hb
   ·exact h.new (cel b [v]) (by simp) b hm
   ·exact h.new (own v (tb l)) (by simp) b hb
  ·exact h.new t (by simp[ht]) b hb
 ·intro t ht
  rcases List.mem_cons.1 ht with rfl | ht
  ·exact⟨h.get (i:=0) rfl,h.own (i:=1) rfl,q1 (own v (tb l)) (by simp) W hm⟩
  ·exact h.all t (by simp[ht])
 ·intro t ht b hb
  rcases List.mem_cons.1 hb with rfl | hb
  ·exact q1 t (by simp[ht]) b hm
  ·exact q3 t ht b hb
theorem zbv8:∀ {ws:List ByteArray} {w:ByteArray},ws≠[]→jn (ws ++ [w])=jn ws ++ (32#8 :: bv w)
 | [],_,h=>absurd rfl h
 | [v],w,_=>rfl
 | v :: u :: ws,w,_=>by
  show bv v ++ 32#8 :: jn ((u :: ws) ++ [w])=(bv v ++ 32#8 :: jn (u :: ws)) ++ _
  rw[zbv8 (ws:=u :: ws) (by simp),List.append_assoc]
  rfl
theorem zb1d:∀ {ws:List ByteArray},(∀ w∈ws,w.size≤10000)→(jn ws).length≤10001 * ws.length
 | [],_=>by simp[jn]
 | [v],h=>by
  have:=h v (by simp)
  have:=zci v
  simp only[jn,List.length_cons,List.length_nil]
  omega
 | v :: u :: ws,h=>by
  have:=h v (by simp)
  have:=zci v
  have:=zb1d (ws:=u :: ws) (fun w hw=>h w (by simp[hw]))
  simp only[jn,List.length_cons,List.length_append] at this ⊢
  omega
theorem zb1e {W:Nat} {v a:V} {xs:List (BitVec 8)} {ws:List ByteArray} (h:Hp H0 H (cel W [v] :: own v xs :: own a ws :: L)) (hn:ws.length≤10) (hws:∀ w∈ws,w.size≤10000) (hl:xs.length≤9000000000000) (Q:V→Heap→Prop)
  (hQ:∀ v' H',Hp H0 H' (cel W [v'] :: own v' (xs ++ jn ws ++ [10#8]) :: own a ws :: L)→Q (.tuple #[]) H'):wp (zbc [ptr W 0,a]) Q H:=by
 show wp (zoh (ptr W 0) a) Q H
 have hal:=(h.own (i:=2) rfl).sl.len
 unfold zoh
 rw[z7,z7,z7]
 refine zbo ws.length (by omega) (fun j vs H'=>∃ v',vs=[ptr W 0,a,i64 j]∧Hp H0 H' (cel W [v'] :: own v' (xs ++ jn (ws.take j)) :: own a ws :: L)) ⟨v,rfl,by simpa[jn] using h⟩ ?_
 rintro j vs H1 hj ⟨v1,rfl,s1⟩
 have hjl:=zb1d (ws:=ws.take j) (fun w hw=>hws w (List.mem_of_mem_take hw))
 have htl:(ws.take j).length=j:=by rw[List.length_take];omega
 rw[htl] at hjl
 have g1:=s1.get (i:=0) rfl
 have f10:zbu (rep 1 [Value.int .u8 0]) [(0,1,Value.int .u8 10)]=some (zbj [10#8]):=rfl
 have f32:zbu (rep 1 [Value.int .u8 0]) [(0,1,Value.int .u8 32)]=some (zbj [32#8]):=rfl
 by_cases hlt:j < ws.length
 case neg =>
  have:j=ws.length:=by omega
  subst this
  rw[List.take_length] at s1 hjl
  (try simp (maxSteps:=999999) (disch:=try exact ZD) only[ZA,zbz,zo,zn,zm,zk,zi,zg,zii,hal,zt5,g1])
  refine zna (α:=BitVec 8) (n:=1) (ys:=[10#8]) s1 (i:=1) rfl rfl (by decide) f10 rfl (by simp only[List.length_append];omega) (by simp only[List.length_append];omega) fun w H2 s2=>?_
  simp only[List.set_cons_zero,List.set_cons_succ] at s2
  have g2:=s2.get (i:=0) rfl
  have ow:=(s2.own (i:=1) rfl).isOne
  (try simp (maxSteps:=999999) (disch:=try exact ZD) only[ZB,g2])
  have s3:=s2.set (i:=0) rfl [w]
  simp only[List.set_cons_zero] at s3
  simp only[ow,true_and]
  exact hQ w _ s3
 have o1:=(s1.own (i:=2) rfl).sl
 have a1:=o1.addr1 rfl (k := .i64) (i:=j) (by omega) (by omega)
 rw[Int.toNat_natCast] at a1
 have hbody:∀ (v2:V) (pre:List (BitVec 8)) (H2:Heap),pre.length≤9100000000000→pre ++ bv (ws.getD j default)=xs ++ jn (ws.take (j + 1))→Hp H0 H2 (cel W [v2] :: own v2 pre :: own a ws :: L) →
   ∀ R:Out→Heap→Prop,(∀ H3 v3,Hp H0 H3 (cel W [v3] :: own v3 (xs ++ jn (ws.take (j + 1))) :: own a ws :: L)→R (.nxt [ptr W 0,a,i64 j]) H3)→wp (zmv [ptr W 0,a,i64 j]) R H2:=by
  intro v2 pre H2 hpl he s2 R hR
  have g2:=s2.get (i:=0) rfl
  have o2:=(s2.own (i:=2) rfl).sl
  have c2:=o2.cell1 rfl hlt default
  rw[zbd] at c2
  have e1:(Flat.enc (ws.getD j default))[0]? = some (.string (ws.getD j default)):=rfl
  rw[e1] at c2
  have hsz:=hws _ (zbh (d:=default) hlt)
  (try simp (maxSteps:=999999) (disch:=try exact ZD) only[ZB,zmv,g2,a1,c2])
  refine zb2l s2 (i:=1) rfl (by omega) fun w H3 s3=>?_
  simp only[List.set_cons_zero,List.set_cons_succ] at s3
  have g3:=s3.get (i:=0) rfl
  have ow:=(s3.own (i:=1) rfl).isOne
  (try simp (maxSteps:=999999) (disch:=try exact ZD) only[ZB,g3])
  have s4:=s3.set (i:=0) rfl [w]
  simp only[List.set_cons_zero] at s4
  simp only[ow,true_and]
  rw[he] at s4
  exact hR _ w s4
 by_cases hj0:j=0
 ·subst hj0
  have e0:decide (((0:Nat):Int) > 0)=false:=by decide
  (try simp (maxSteps:=999999) (disch:=try exact ZD) only[ZB,zii,hal,zmx,e0])
  refine hbody v1 xs H1 (by omega) ?_ (by simpa[jn] using s1) _ fun H3 v3 s3=>?_
  ·rw[zc2 (d:=default) hlt];rfl
  (try simp (maxSteps:=999999) (disch:=try exact ZD) only[ZB,zmw])
  exact⟨hlt,v3,rfl,s3⟩
 ·have e0:decide ((j:Int) > 0)=true:=decide_eq_true (by omega)
  (try simp (maxSteps:=999999) (disch:=try exact ZD) only[ZA,zbz,zo,zn,zm,zk,zi,zg,zii,hal,zmx,e0,g1])
  refine zna (α:=BitVec 8) (n:=1) (ys:=[32#8]) s1 (i:=1) rfl rfl (by decide) f32 rfl (by simp only[List.length_append];omega) (by simp only[List.length_append];omega) fun w H2 s2=>?_
  simp only[List.set_cons_zero,List.set_cons_succ] at s2
  have g2:=s2.get (i:=0) rfl
  have ow:=(s2.own (i:=1) rfl).isOne
  (try simp (maxSteps:=999999) (disch:=try exact ZD) only[ZB,g2])
  have s3:=s2.set (i:=0) rfl [w]
  simp only[List.set_cons_zero] at s3
  simp only[ow,true_and]
  refine hbody w _ _ (by simp only[List.length_append,List.length_cons,List.length_nil];omega) ?_ s3 _ fun H3 v3 s3=>?_
  ·rw[zc2 (d:=default) hlt,zbv8 (by intro q;rw[q] at htl;simp at htl;omega)]
   simp only[List.append_assoc,List.cons_append,List.nil_append]
  (try simp (maxSteps:=999999) (disch:=try exact ZD) only[ZB,zmw])
  exact⟨hlt,v3,rfl,s3⟩
theorem zb3z (k:ByteArray) (ds:List Wd):jn (k :: ds.map z7m) ++ [10#8]=tb (ze4 k ds):=by
 rw[zbss]
 simp only[ze4,tb,List.map_append]
 rfl
theorem znv {W:Nat} {v:V} {l:List UInt8} {w:ByteArray} {zero:List V} {parts:List (Nat × Nat × V)} (ds:List Wd) {n:Nat} (h:Hp H0 H (dwr W v l :: L)) (hz:zero.all zge=true) (hf:zbu zero parts=some (zbj (w :: ds.map z7m))) (hw:w.size≤10000) (hds:∀ d∈ds,d.Ok) (hn:ds.length≤8) (hnn:ds.length + 1=n) (hl:l.length≤8000000000000) (Q:V→Heap→Prop)
  (hQ:∀ v' H',Hp H0 H' (dwr W v' (l ++ ze4 w ds) :: L)→Q (.tuple #[]) H'):wp (zcc 1 n zero parts) (fun a H'=>wp (zbc [ptr W 0,a]) Q H') H:=by
 refine (zdf hz hf).mpr ?_
 have s1:=(zbv7 h).newo (α:=ByteArray) (n:=1) (m:=n) (w :: ds.map z7m) rfl (by simp[hnn])
 have s2:=s1.rot (A:=[own (slc H.next 0 1 n n) (w :: ds.map z7m)]) (B:=[cel W [v],own v (tb l)])
 simp only[List.cons_append,List.nil_append] at s2
 refine zb1e s2 (by simp;omega) (fun x hx=>?_) (by simpa[tb] using (by omega:l.length≤9000000000000)) Q fun v' H' s3=>?_
 ·rcases List.mem_cons.1 hx with rfl | hx
  ·exact hw
  obtain⟨d,hd,rfl⟩:=List.mem_map.1 hx
  have hb:=(zbfu (hds d hd)).2
  have e:(bv (z7m d)).length=(zbgv d).length:=by rw[zbsr,List.length_map]
  rw[zci] at e
  omega
 ·rw[List.append_assoc,zb3z] at s3
  have e:tb l ++ tb (ze4 w ds)=tb (l ++ ze4 w ds):=by simp[tb]
  rw[e] at s3
  exact hQ v' H' (zbsy (s3.sub (List.Sublist.cons₂ _ (List.Sublist.cons₂ _ (List.Sublist.cons _ (List.Sublist.refl _))))))
theorem zb6i {m:Nat} (h:m < 10):sv [BitVec.ofNat 8 (48 + m)]=⟨[UInt8.ofNat (48 + m)].toArray⟩:=rfl
theorem zb6j (a b:List UInt8):(⟨a.toArray⟩:ByteArray) ++ ⟨b.toArray⟩=⟨(a ++ b).toArray⟩:=by
 have h:((⟨a.toArray⟩:ByteArray) ++ ⟨b.toArray⟩).data=a.toArray ++ b.toArray:=ByteArray.data_append
 cases hq:(⟨a.toArray⟩:ByteArray) ++ ⟨b.toArray⟩ with
 | mk d =>
  rw[hq] at h
  simp only at h
  rw[h]
  simp
theorem zil (n:Int) (h0:0≤n) (h1:n≤9223372036854775807) (Q:V→Heap→Prop) (hQ:∀ H',Keeps [] H H'→Q (.string (z7m (.n n))) H'):wp (zbn [i64 n]) Q H:=by
 show wp (zxi (i64 n)) Q H
 unfold zxi
 rw[z7,z7]
 show wp (zxg (i64 n)) _ H
 unfold zxg
 rw[z7,z7]
 refine zd6 (Inv:=fun k vs H'=>∃ (m:Nat) (acc:List UInt8),1≤k∧k≤19∧m < 10 ^ k∧m≤9223372036854775807∧vs=[i64 m,.string ⟨acc.toArray⟩]∧Keeps [] H H'∧Lib.decDigits n.toNat=Lib.decDigits m ++ acc∧acc.length + k=19) (n:=19) (by unfold zbm;omega)
  ⟨n.toNat,[],by omega,by omega,by omega,by omega,by rw[show ((n.toNat:Nat):Int)=n by omega],Keeps.refl _ _,by simp,rfl⟩ ?_
 rintro k vs H1 ⟨m,acc,hk1,hk2,hm,hm2,rfl,kk,hd,hac⟩
 have e1:zu .rem (i64 m) (Value.int .i64 10)=some (i64 ((m % 10:Nat):Int)):=by
  rw[zbqj (by omega) (by omega)]
  rfl
 have e2:zu .quo (i64 m) (Value.int .i64 10)=some (i64 ((m / 10:Nat):Int)):=by
  rw[zbqk (by omega) (by omega),i64_in (by omega) (by omega)]
  rfl
 have hr:m % 10 < 10:=Nat.mod_lt _ (by omega)
 have e3:zu .add (Value.int .i64 48) (i64 ((m % 10:Nat):Int))=some (i64 ((48 + m % 10:Nat):Int)):=by
  show zu .add (i64 48) (i64 ((m % 10:Nat):Int))=_
  rw[zbve,i64_in (by omega) (by omega)]
  rw[show (48:Int) + ((m % 10:Nat):Int)=((48 + m % 10:Nat):Int) by omega]
 have e4:cvi .u8 (i64 ((48 + m % 10:Nat):Int))=some (B (BitVec.ofNat 8 (48 + m % 10))):=by
  rw[zb2h,zb4d (by omega) (by omega)]
  show _=some (Value.int .u8 ((BitVec.ofNat 8 (48 + m % 10)).toNat:Int))
  have e:(48 + m % 10) % 2 ^ 8=48 + m % 10:=Nat.mod_eq_of_lt (by omega)
  rw[BitVec.toNat_ofNat,e]
 (try simp (maxSteps:=999999) (disch:=try exact ZD) only[ZB,z3q,e1,e2,e3,e4])
 refine (zdf (by rfl) (cs:=zbj [BitVec.ofNat 8 (48 + m % 10)]) (by rfl)).mpr ?_
 have k2:Keeps [] H1 (H1.push (some (.cells true (zbj [BitVec.ofNat 8 (48 + m % 10)])))):=Keeps.push _ _ _
 have o2:zh7 (H1.push (some (.cells true (zbj [BitVec.ofNat 8 (48 + m % 10)])))) (slc H1.next 0 1 1 1) [BitVec.ofNat 8 (48 + m % 10)] := .inr ⟨_,rfl,Heap.get_push_self _ _⟩
 generalize H1.push (some (.cells true (zbj [BitVec.ofNat 8 (48 + m % 10)])))=H2 at *
 (try simp (maxSteps:=999999) (disch:=try exact ZD) only[ZB])
 refine zbis o2 ?_
 rw[zb6i hr]
 have e5:zu .add (.string ⟨[UInt8.ofNat (48 + m % 10)].toArray⟩) (.string ⟨acc.toArray⟩)=some (.string ⟨(UInt8.ofNat (48 + m % 10) :: acc).toArray⟩):=by
  rw[zb11 (by rw[zbv5,zbv5];simp;omega),zb6j]
  rfl
 have kk2:=kk.trans k2 (by simp)
 by_cases hz:m / 10=0
 ·have hz':((m / 10:Nat):Int)=0:=by omega
  (try simp (maxSteps:=999999) (disch:=try exact ZD) only[ZB,e5,decide_eq_true hz'])
  have:(⟨(UInt8.ofNat (48 + m % 10) :: acc).toArray⟩:ByteArray)=z7m (.n n):=by
   show _=(⟨(Lib.itoa n).toArray⟩:ByteArray)
   unfold Lib.itoa
   rw[if_neg (by omega),hd,Lib.decDigits,dif_pos (by omega),Nat.mod_eq_of_lt (by omega)]
   rfl
  rw[this]
  exact hQ _ kk2
 ·have hz':¬ ((m / 10:Nat):Int)=0:=by omega
  have hk3:2≤k:=by
   rcases Nat.lt_or_ge k 2 with q | q
   ·have:k=1:=by omega
    subst this
    omega
   ·exact q
  (try simp (maxSteps:=999999) (disch:=try exact ZD) only[ZB,e5,decide_eq_false hz'])
  have hp:10 ^ k=10 * 10 ^ (k - 1):=by
   obtain⟨j,rfl⟩:∃ j,k=j + 1:=⟨k - 1,by omega⟩
   rw[Nat.add_sub_cancel,Nat.pow_succ,Nat.mul_comm]
  refine⟨k - 1,by omega,m / 10,UInt8.ofNat (48 + m % 10) :: acc,by omega,by omega,by omega,by omega,rfl,kk2,?_,by simp;omega⟩
  rw[hd,Lib.decDigits,dif_neg (by omega),List.append_assoc]
  rfl
theorem zbph {w:V} (h:Sl H w zbkd) {t:Int} (h0:1≤t) (h1:t≤3):zr 1 w (i64 t)=some (ptr (slB w) (slO w + t.toNat))∧zes (H.get (slB w)) (slO w + t.toNat)=some (.string (zxs t)):=by
 have hl:zbkd.length=4:=rfl
 have c1:=h.cell1 rfl (i:=t.toNat) (by omega) default
 rw[zbd] at c1
 refine⟨h.addr1 rfl (k := .i64) (i:=t) (by omega) (by omega),?_⟩
 rw[c1]
 obtain rfl | rfl | rfl:t=1∨t=2∨t=3:=by omega
 all_goals rfl
theorem zb6k {w:V} (h:Sl H w zbef) {t:Int} (h0:1≤t) (h1:t≤4):zr 1 w (i64 t)=some (ptr (slB w) (slO w + t.toNat))∧zes (H.get (slB w)) (slO w + t.toNat)=some (.string (levW t)):=by
 have hl:zbef.length=5:=rfl
 have c1:=h.cell1 rfl (i:=t.toNat) (by omega) default
 rw[zbd] at c1
 refine⟨h.addr1 rfl (k := .i64) (i:=t) (by omega) (by omega),?_⟩
 rw[c1]
 obtain rfl | rfl | rfl | rfl:t=1∨t=2∨t=3∨t=4:=by omega
 all_goals rfl
end Go.AM.Cap
