import Derived.Test.YtjchglndancedaaGreatDoorCfI
import Derived.Test.YtjchglndancedaaGreatDoorAmIn
set_option linter.all false
/- conf: sess.New, plc.New -/
set_option maxHeartbeats 8000000
namespace Go.AM.Cap
open Go.AM Go.Proofs
def PUs.u (u:PUs):Us:=⟨u.name,u.key,⟨.slice none 0 0,u.rs,rfl⟩⟩
def zbgn (l:List PUs) (parts:Int):Int × Int:=zik (l.map PUs.u) parts
theorem zbz6 (l:List Us) (n:ByteArray):zyt (l.map fun u=>u.p.u) n=zyt l n:=by
 unfold zyt
 induction l with
 | nil=>rfl
 | cons u l ih =>
  simp only[List.map_cons,zhf]
  rw[ih]
  rfl
theorem zbjz (parts:Int):∀ (l ah:List Us),zen parts (ah.map fun u=>u.p.u) (l.map fun u=>u.p.u)=zen parts ah l
 | [],_=>rfl
 | u :: l,ah=>by
  simp only[List.map_cons,zen]
  have e1:ze3 u.p.u=ze3 u:=rfl
  have e2:u.p.u.name=u.name:=rfl
  have e3:u.p.u.rs.xs=u.rs.xs:=rfl
  have e4:=zbjz parts l (ah ++ [u])
  rw[List.map_append] at e4
  simp only[List.map_cons,List.map_nil] at e4
  rw[e1,e2,e3,zbz6,e4,List.length_map]
theorem zbr2 (l:List Us) (parts:Int):zbgn (l.map Us.p) parts=zik l parts:=by
 unfold zbgn zik
 rw[List.map_map,List.length_map]
 have:=zbjz parts l []
 rw[List.map_nil] at this
 rw[show (PUs.u ∘ Us.p)=fun u=>u.p.u from rfl,this]
def zvo (s:Sy) (us:List PUs) (idle:Int):Int :=
 if exE s≠0 then exE s else
 if (zbgn us s.uns.length).2≠0 then (zbgn us s.uns.length).2 else
 if idle < 1∨idle > 100000 then 1 else 0
theorem zbr3 {H:Heap} {G:List V→M V} {v:V} {l:List Us} (h:Users H v l) (parts idle:Int) (Q:V→Heap→Prop)
  (hbad1:(zik l parts).2≠0→∀ H',Keeps [] H H'→Q (.tuple #[.pointer none,i64 (zik l parts).2]) H')
  (hbad2:(zik l parts).2=0→idle < 1∨idle > 100000→∀ H',Keeps [] H H'→Q (.tuple #[.pointer none,i64 1]) H')
  (hQ:(zik l parts).2=0→¬ (idle < 1∨idle > 100000)→∀ p H',Keeps [] H H'→Q (.tuple #[ptr p 0,i64 0]) H'):wp (z15 G [v,i64 parts,i64 idle]) Q H:=by
 show wp (zbbc G v (i64 parts) (i64 idle)) Q H
 unfold zbbc
 rw[z7,z7,z7]
 refine zbz2 h parts _ fun H1 k1=>?_
 by_cases he:(zik l parts).2=0
 case neg =>
  have q:=hbad1 he _ k1
  (try simp (maxSteps:=999999) (disch:=try exact ZD) only[ZB])
  exact q
 rw[he]
 by_cases hi:idle < 1∨idle > 100000
 ·have q:=hbad2 he hi _ k1
  by_cases h1:idle < 1
  ·(try simp (maxSteps:=999999) (disch:=try exact ZD) only[ZB,zyh])
   exact q
  ·(try simp (maxSteps:=999999) (disch:=try exact ZD) only[ZB,zyh])
   exact q
 have hl:l.length≤8:=by
  unfold zik at he
  by_cases c1:parts < 1∨parts > 8
  ·rw[if_pos c1] at he;cases he
  rw[if_neg c1] at he
  by_cases c2:l.length > 8
  ·rw[if_pos c2] at he;cases he
  omega
 (try simp (maxSteps:=999999) (disch:=try exact ZD) only[ZB,zyh,zbgf])
 refine zs3 (α:=Us) (n:=3) rfl rfl rfl (h.out.keep0 k1) (by omega) (by omega) _ fun w H2 o2 k2 f2=>?_
 have ow:=o2.isOne
 (try simp (maxSteps:=999999) (disch:=try exact ZD) only[ZA,zbz,zo,zn,zm,zk,zj,zg,ze])
 refine (zb0 (by simp[ow])).mpr ?_
 exact hQ he hi _ _ (zbq (k1.trans k2 (fun _ _ h=>h)))
theorem zbj0 {H:Heap} {G:List V→M V} {x:SyV} {s:Sy} {v:V} {l:List Us} {us:List PUs} (h:SysAt H x s) (hv:Users H v l) (hp:l.map Us.p=us) (idle:Int) (Q:V→Heap→Prop)
  (hQ:∀ a H',Keeps [] H H'→Q (.tuple #[a,i64 (zvo s us idle)]) H'):wp (zvs G [.agg (x.cs s).toArray,v,i64 idle]) Q H:=by
 show wp (zbfk G (.agg (x.cs s).toArray) v (i64 idle)) Q H
 subst hp
 have ho:=h.one
 have hsm:=h.small
 obtain⟨ul,hu,hul⟩:=h.uns
 have hn:s.uns.length=ul.length:=by rw[← hul,List.length_map]
 have hlen:=hu.out.len
 have h7:(x.cs s).length=7:=rfl
 have st:Hp H (H.push (some (.cells true (x.cs s)))) [cel H.next (x.cs s)]:=(Hp.start H).newc _
 unfold zbfk
 rw[z7,z7]
 refine (zb0 ho).mpr ?_
 generalize H.push (some (.cells true (x.cs s)))=H1 at *
 have c0:(x.cs s)[0]? = some x.pv:=rfl
 have c1:(x.cs s)[1]? = some x.gv:=rfl
 have c4:(x.cs s)[4]? = some x.wv:=rfl
 have c5:(x.cs s)[5]? = some x.uv:=rfl
 have d1:=fun Q=>zbb (n:=7) (Q:=Q) (st.get (i:=0) rfl) h7
 rw[z7,d1,z7]
 unfold zvo at hQ
 refine zbr1 (h.keep0 st.keeps) _ (fun he H2 k2=>?_) fun he xp H2 k2=>?_
 ·have s2:=st.keep0 k2
  have q:=hQ (.pointer none) _ s2.keeps
  rw[if_pos he] at q
  (try simp (maxSteps:=999999) (disch:=try exact ZD) only[ZB])
  exact q
 have s2:=st.keep0 k2
 rw[if_neg (by simp[he]),zbr2,hn] at hQ
 have g2:=s2.get (i:=0) rfl
 have hok:=zbo0 he
 (try simp (maxSteps:=999999) (disch:=try exact ZD) only[ZB,zbgj,g2,c5,hlen])
 refine zbr3 (hv.keep0 s2.keeps) (ul.length:Int) idle _ (fun hb H3 k3=>?_) (fun hb hi H3 k3=>?_) fun hb hi dp H3 k3=>?_
 ·have q:=hQ (.pointer none) _ (s2.keep0 k3).keeps
  rw[if_pos hb] at q
  (try simp (maxSteps:=999999) (disch:=try exact ZD) only[ZB])
  exact q
 ·have q:=hQ (.pointer none) _ (s2.keep0 k3).keeps
  rw[if_neg (by simp[hb]),if_pos hi] at q
  (try simp (maxSteps:=999999) (disch:=try exact ZD) only[ZB])
  exact q
 rw[if_neg (by simp[hb]),if_neg hi] at hQ
 have s3:=s2.keep0 k3
 have hl8:l.length≤8:=by
  unfold zik at hb
  by_cases c1:(ul.length:Int) < 1∨(ul.length:Int) > 8
  ·rw[if_pos c1] at hb;cases hb
  rw[if_neg c1] at hb
  by_cases c2:l.length > 8
  ·rw[if_pos c2] at hb;cases hb
  omega
 have g3:=s3.get (i:=0) rfl
 (try simp (maxSteps:=999999) (disch:=try exact ZD) only[ZB,zbgi,g3,c1])
 refine zs3 (α:=Gr) (n:=3) rfl rfl rfl (s3.ro h.grs) (by omega) (by omega) _ fun gw H4 o4 k4 f4=>?_
 have s4:=s3.keep0 k4
 have og:=o4.isOne
 have hvl:=hv.out.len
 (try simp (maxSteps:=999999) (disch:=try exact ZD) only[ZA,zbz,zo,zn,zm,zk,zj,zg,ze])
 refine (zb0 (by simp[og])).mpr ?_
 have s5:Hp H (H4.push (some (.cells true [ptr xp 0,ptr dp 0,.slice none 0 0,gw,.slice none 0 0,i64 0,i64 0,i64 0]))) [cel H4.next [ptr xp 0,ptr dp 0,.slice none 0 0,gw,.slice none 0 0,i64 0,i64 0,i64 0],cel H.next (x.cs s)]:=s4.newc _
 generalize hH5:H4.push (some (.cells true [ptr xp 0,ptr dp 0,.slice none 0 0,gw,.slice none 0 0,i64 0,i64 0,i64 0]))=H5 at *
 have hH5':H4.push (some (.cells true [ptr xp 0,ptr dp 0,.slice none 0 0,gw,.slice none 0 0,Value.int .i64 0,Value.int .i64 0,Value.int .i64 0]))=H5:=hH5
 generalize H4.next=X at *
 (try simp (maxSteps:=999999) (disch:=try exact ZD) only[ZB,hH5',hvl])
 refine zbo l.length (by omega) (fun j vs H'=>∃ (uv:V) (uz:List Us),vs=[ptr H.next 0,ptr X 0,v,i64 l.length,i64 j]∧uz.length=j∧Hp H H' [own uv uz,cel X [ptr xp 0,ptr dp 0,uv,gw,.slice none 0 0,i64 0,i64 0,i64 0],cel H.next (x.cs s)]) ⟨.slice none 0 0,[],rfl,rfl,s5.nilo⟩ ?_
 rintro j vs H6 hj ⟨uv,uz,rfl,huz,s6⟩
 by_cases hlt:j < l.length
 ·have hv6:=hv.keep0 s6.keeps
  have hat:=hv6.at hlt
  have a1:=hv6.out.addr' (n:=3) rfl (k := .i64) (i:=j) (by omega) (by omega)
  rw[Int.toNat_natCast] at a1
  have e1:=fun Q=>hv6.out.ldn' (Q:=Q) (n:=3) rfl hlt default
  generalize l.getD j default=u at *
  have hone:=zbbm u
  (try simp (maxSteps:=999999) (disch:=try exact ZD) only[ZA,zo,zn,zm,zk,zi,zj,zg,ze,zbbd,zbjb,a1,e1,z7d])
  have s7:Hp H (H6.push (some (.cells true [.string u.name,.string u.key,u.rs.v]))) [cel H6.next [.string u.name,.string u.key,u.rs.v],own uv uz,cel X [ptr xp 0,ptr dp 0,uv,gw,.slice none 0 0,i64 0,i64 0,i64 0],cel H.next (x.cs s)]:=s6.newc _
  have k7:Keeps [] H6 (H6.push (some (.cells true [.string u.name,.string u.key,u.rs.v]))):=Keeps.push _ _ _
  generalize H6.push (some (.cells true [.string u.name,.string u.key,u.rs.v]))=H7 at *
  have g7:=s7.get (i:=0) rfl
  have n7:=s7.ltAt (i:=0) rfl H6.next (by simp[cel])
  (try simp (maxSteps:=999999) (disch:=try exact ZD) only[ZA,zo,zn,zm,zk,zi,zj,zg,ze,g7])
  refine zs3 (α:=Rl) (n:=2) rfl rfl rfl (hat.1.keep0 k7) (by omega) (by omega) _ fun rw_ H8 o8 k8 f8=>?_
  have s8:=s7.keep0 k8
  have g8:=s8.get (i:=0) rfl
  have n8:=s8.ltAt (i:=0) rfl H6.next (by simp[cel])
  have orw:=o8.isOne
  (try simp (maxSteps:=999999) (disch:=try exact ZD) only[ZA,zo,zn,zm,zk,zi,zj,zg,ze,g8])
  simp only[orw,true_and]
  have s9:=s8.set (i:=0) rfl [.string u.name,.string u.key,rw_]
  simp only[List.set_cons_zero] at s9
  generalize H8.set H6.next (some (.cells true [.string u.name,.string u.key,rw_]))=H9 at *
  have g9:=s9.get (i:=2) rfl
  have d9:=fun Q=>zbb (n:=3) (Q:=Q) (s9.get (i:=0) rfl) rfl
  (try simp (maxSteps:=999999) (disch:=try exact ZD) only[ZA,zo,zn,zm,zi,zj,zg,ze,g9,d9])
  have hf:zbu (rep 1 [Value.string ⟨#[]⟩,Value.string ⟨#[]⟩,Value.slice none 0 0]) [(0,3,.agg #[.string u.name,.string u.key,rw_])]=some (zbj ([⟨u.name,u.key,⟨rw_,[],orw⟩⟩]:List Us)):=by
   show zbu _ [(0,3,.agg ([.string u.name,.string u.key,rw_]:List V).toArray)]=_
   rw[zk (n:=3) (by simp[orw]) rfl (by decide),zb1]
   rfl
  refine (zdf (by decide) hf).mpr ?_
  have sA:=s9.newo (α:=Us) (n:=3) (m:=1) [⟨u.name,u.key,⟨rw_,[],orw⟩⟩] rfl rfl
  generalize H9.next=Y at *
  generalize H9.push (some (.cells true (zbj ([⟨u.name,u.key,⟨rw_,[],orw⟩⟩]:List Us))))=HA at *
  have gA:=sA.get (i:=3) rfl
  have hsA:=(sA.own (i:=0) rfl).sl
  have ck:zie (zes (HA.get X) 2) uv=true:=by
   rw[gA]
   have:=z74 (sA.own (i:=2) rfl).sl
   show zie (some uv) uv=true
   rcases (sA.own (i:=2) rfl).sl with⟨rfl,_⟩ | ⟨b,o,u,c,rfl,_⟩ <;> simp[zie,vEq]
  (try simp (maxSteps:=999999) (disch:=try exact ZD) only[ZB])
  refine z1l (α:=Us) (n:=3) sA (i:=2) rfl rfl hsA (by rw[huz];simp;omega) (by rw[huz];simp;omega) fun uw HB sB=>?_
  simp only[List.set_cons_succ,List.set_cons_zero] at sB
  have gB:=sB.get (i:=3) rfl
  have nB:=sB.ltAt (i:=3) rfl X (by simp[cel])
  have ouw:=(sB.own (i:=2) rfl).isOne
  (try simp (maxSteps:=999999) (disch:=try exact ZD) only[ZB,gB])
  simp only[ouw,true_and]
  have sC:=sB.set (i:=3) rfl [ptr xp 0,ptr dp 0,uw,gw,.slice none 0 0,i64 0,i64 0,i64 0]
  simp only[List.set_cons_succ,List.set_cons_zero] at sC
  generalize HB.set X (some (.cells true [ptr xp 0,ptr dp 0,uw,gw,.slice none 0 0,i64 0,i64 0,i64 0]))=HC at *
  (try simp (maxSteps:=999999) (disch:=try exact ZD) only[ZB,ck,zbja])
  have sD:=sC.drop 2
  exact⟨hlt,uw,_,rfl,by rw[List.length_append,huz];rfl,sD⟩
 have g6:=s6.get (i:=2) rfl
 have s6':=s6.tail
 have o6:=(s6.own (i:=0) rfl).isOne
 have hpl:=h.pts.len
 (try simp (maxSteps:=999999) (disch:=try exact ZD) only[ZB,zbbd,zbgh,g6,c0,hpl])
 refine zbo s.pts.length (by omega) (fun j vs H'=>∃ (iv:V) (is:List Int),vs=[ptr H.next 0,ptr X 0,x.pv,i64 s.pts.length,i64 j]∧is.length≤j∧Hp H H' [own iv is,cel X [ptr xp 0,ptr dp 0,uv,gw,iv,i64 0,i64 0,i64 0],cel H.next (x.cs s)]) ⟨.slice none 0 0,[],rfl,by simp,s6'.nilo⟩ ?_
 rintro i vs H7 hi2 ⟨iv,is,rfl,his,s7⟩
 by_cases hlt2:i < s.pts.length
 ·have h7':=s7.ro h.pts
  have a1:=h7'.addr' (n:=2) rfl (k := .i64) (i:=i) (by omega) (by omega)
  rw[Int.toNat_natCast] at a1
  have e1:=fun Q=>h7'.ldn' (Q:=Q) (n:=2) rfl hlt2 default
  generalize s.pts.getD i default=y at *
  obtain⟨ty,out⟩:=y
  (try simp (maxSteps:=999999) (disch:=try exact ZD) only[ZA,zo,zn,zm,zk,zi,zj,zg,ze,zbbf,zbjc,a1,e1,zbua])
  have s8:Hp H (H7.push (some (.cells true [i64 ty,.bool out]))) [cel H7.next [i64 ty,.bool out],own iv is,cel X [ptr xp 0,ptr dp 0,uv,gw,iv,i64 0,i64 0,i64 0],cel H.next (x.cs s)]:=s7.newc _
  generalize H7.push (some (.cells true [i64 ty,.bool out]))=H8 at *
  have g8:=s8.get (i:=0) rfl
  have g8':=s8.get (i:=2) rfl
  cases out with
  | true =>
   (try simp (maxSteps:=999999) (disch:=try exact ZD) only[ZB,g8,zbbe])
   exact⟨hlt2,iv,is,rfl,by omega,s8.tail⟩
  | false =>
   (try simp (maxSteps:=999999) (disch:=try exact ZD) only[ZA,zbz,zo,zn,zm,zk,zi,zg,ze,g8,g8'])
   refine (zdf (by decide) (by rw[show rep 1 [Value.int .i64 0]=[i64 0] from rfl,ze rfl (by decide),zb1];rfl:zbu (rep 1 [Value.int .i64 0]) [(0,1,i64 ty)]=some (zbj ([ty]:List Int)))).mpr ?_
   have sA:=s8.newo (α:=Int) (n:=1) (m:=1) [ty] rfl rfl
   generalize H8.next=Y at *
   generalize H8.push (some (.cells true (zbj ([ty]:List Int))))=HA at *
   have gA:=sA.get (i:=3) rfl
   have hsA:=(sA.own (i:=0) rfl).sl
   have ck:zie (zes (HA.get X) 4) iv=true:=by
    rw[gA]
    show zie (some iv) iv=true
    rcases (sA.own (i:=2) rfl).sl with⟨rfl,_⟩ | ⟨b,o,u,c,rfl,_⟩ <;> simp[zie,vEq]
   (try simp (maxSteps:=999999) (disch:=try exact ZD) only[ZB])
   refine z1l (α:=Int) (n:=1) sA (i:=2) rfl rfl hsA (by simp;omega) (by simp;omega) fun uw HB sB=>?_
   simp only[List.set_cons_succ,List.set_cons_zero] at sB
   have gB:=sB.get (i:=3) rfl
   have nB:=sB.ltAt (i:=3) rfl X (by simp[cel])
   have ouw:=(sB.own (i:=2) rfl).isOne
   (try simp (maxSteps:=999999) (disch:=try exact ZD) only[ZB,gB])
   simp only[ouw,true_and]
   have sC:=sB.set (i:=3) rfl [ptr xp 0,ptr dp 0,uv,gw,uw,i64 0,i64 0,i64 0]
   simp only[List.set_cons_succ,List.set_cons_zero] at sC
   generalize HB.set X (some (.cells true [ptr xp 0,ptr dp 0,uv,gw,uw,i64 0,i64 0,i64 0]))=HC at *
   (try simp (maxSteps:=999999) (disch:=try exact ZD) only[ZB,ck,zbbe])
   have sD:=sC.drop 2
   exact⟨hlt2,uw,_,rfl,by rw[List.length_append];simp;omega,sD⟩
 have g7:=s7.get (i:=2) rfl
 have s7':=s7.tail
 have hwl:=h.wins.len
 (try simp (maxSteps:=999999) (disch:=try exact ZD) only[ZB,zbbf,zbgg,g7,c4,hwl])
 refine zbo s.wins.length (by omega) (fun j vs H'=>∃ n:Int,vs=[ptr X 0,x.wv,i64 s.wins.length,i64 j]∧Hp H H' [cel X [ptr xp 0,ptr dp 0,uv,gw,iv,i64 n,i64 0,i64 0],cel H.next (x.cs s)]) ⟨0,rfl,s7'⟩ ?_
 rintro k vs H8 hk2 ⟨n,rfl,s8⟩
 by_cases hlt3:k < s.wins.length
 ·have h8':=s8.ro h.wins
  have a1:=h8'.addr' (n:=3) rfl (k := .i64) (i:=k) (by omega) (by omega)
  rw[Int.toNat_natCast] at a1
  have e1:=fun Q=>h8'.ldn' (Q:=Q) (n:=3) rfl hlt3 default
  generalize s.wins.getD k default=y at *
  obtain⟨ya,yb,yc⟩:=y
  (try simp (maxSteps:=999999) (disch:=try exact ZD) only[ZA,zo,zn,zm,zk,zi,zj,zg,ze,zbbh,zbjd,a1,e1,zgj])
  have s9:Hp H (H8.push (some (.cells true [i64 ya,i64 yb,i64 yc]))) [cel H8.next [i64 ya,i64 yb,i64 yc],cel X [ptr xp 0,ptr dp 0,uv,gw,iv,i64 n,i64 0,i64 0],cel H.next (x.cs s)]:=s8.newc _
  generalize H8.push (some (.cells true [i64 ya,i64 yb,i64 yc]))=H9 at *
  have g9:=s9.get (i:=0) rfl
  have g9':=s9.get (i:=1) rfl
  have n9:=s9.ltAt (i:=1) rfl X (by simp[cel])
  by_cases hy:ya = -1
  ·(try simp (maxSteps:=999999) (disch:=try exact ZD) only[ZB,g9,g9',hy])
   have sA:=s9.set (i:=1) rfl [ptr xp 0,ptr dp 0,uv,gw,iv,i64 yc,i64 0,i64 0]
   simp only[List.set_cons_succ,List.set_cons_zero] at sA
   generalize H9.set X (some (.cells true [ptr xp 0,ptr dp 0,uv,gw,iv,i64 yc,i64 0,i64 0]))=HA at *
   (try simp (maxSteps:=999999) (disch:=try exact ZD) only[ZB,zbbg])
   exact⟨hlt3,yc,rfl,sA.tail⟩
  ·(try simp (maxSteps:=999999) (disch:=try exact ZD) only[ZB,g9,g9',zbbg])
   exact⟨hlt3,n,rfl,s9.tail⟩
 (try simp (maxSteps:=999999) (disch:=try exact ZD) only[ZB,zbbh,zbje])
 exact hQ _ _ s8.keeps
end Go.AM.Cap
