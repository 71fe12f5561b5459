import Derived.Test.YtjchglndancedaaGreatDoorCgSc
import Derived.Test.YtjchglndancedaaGreatDoorAmIn
set_option linter.all false
/- conf, the document's Show: units; a system's lines -/
set_option maxHeartbeats 16000000
namespace Go.AM.Cap
open Go.AM Go.Proofs
variable {H0 H:Heap} {L:List Thing}
theorem zbv9 {b:Nat} {v a:V} {l:List UInt8} {ub:List Bd} (k:ByteArray) (hk:k.size≤10000) (hv:Sl H0 a ub) (hb:∀ x∈ub,(x.kind=1∨x.kind=2)∧zh5 x.n) (hn:ub.length≤32) (hl:l.length≤3000000000) (h:Hp H0 H (dwr b v l :: L)) (Q:V→Heap→Prop)
  (hQ:∀ v' H',Hp H0 H' (dwr b v' (l ++ ub.flatMap (zjl k)) :: L)→Q (.tuple #[]) H'):wp (zgy [ptr b 0,.string k,a]) Q H:=by
 show wp (zoj (ptr b 0) (.string k) a) Q H
 have l0:=hv.len
 unfold zoj
 rw[z7,z7]
 refine zbo ub.length (by omega) (fun j vs H'=>∃ v',vs=[ptr b 0,.string k,a,i64 j]∧Hp H0 H' (dwr b v' (l ++ (ub.take j).flatMap (zjl k)) :: L)) ⟨v,rfl,by simpa using h⟩ ?_
 rintro j vs H1 hj ⟨v1,rfl,s1⟩
 by_cases hlt:j < ub.length
 case neg =>
  have:j=ub.length:=by omega
  subst this
  rw[List.take_length] at s1
  (try simp (maxSteps:=999999) (disch:=try exact ZD) only[ZB,zij,l0])
  exact hQ v1 H1 s1
 have hp:=s1.ro hv
 have a1:=hp.addr' (n:=2) rfl (k := .i64) (i:=j) (by omega) (by omega)
 rw[Int.toNat_natCast] at a1
 have e0:=hp.cell' (n:=2) rfl (off:=0) hlt (by omega) default
 have e1:=hp.cell' (n:=2) rfl (off:=1) hlt (by omega) default
 simp only[zbd,Nat.add_zero] at e0 e1
 have hg1:=hb _ (zbh (d:=default) hlt)
 have hacc:((ub.take j).flatMap (zjl k)).length≤60000 * (ub.take j).length:=zby fun p hp=>zps hk (zgl (hb p (List.mem_of_mem_take hp)).2)
 have htl:(ub.take j).length=j:=by rw[List.length_take];omega
 rw[htl] at hacc
 rw[zc2 (d:=default) hlt]
 simp only[List.flatMap_append,List.flatMap_cons,List.flatMap_nil,List.append_nil]
 generalize ub.getD j default=g at *
 obtain⟨ki,nn⟩:=g
 simp only at hg1
 obtain⟨q1,q2⟩:=hg1
 have f0:(Flat.enc (⟨ki,nn⟩:Bd))[0]? = some (i64 ki):=rfl
 have f1:(Flat.enc (⟨ki,nn⟩:Bd))[1]? = some (i64 nn):=rfl
 rw[f0] at e0
 rw[f1] at e1
 have w1:=zgl q2
 have hbody:∀ (w:ByteArray),w=(if ki=1 then zkg else zr5)→∀ R:Out→Heap→Prop,(∀ v' H',Hp H0 H' (dwr b v' (l ++ ((ub.take j).flatMap (zjl k) ++ zjl k ⟨ki,nn⟩)) :: L)→R (.nxt [ptr b 0,.string k,a,i64 j]) H')→wp (zmy [ptr b 0,.string k,a,i64 j,.string w]) R H1:=by
  intro w hw R hR
  have hwz:w.size=4∨w.size=5:=by
   subst hw
   by_cases c:ki=1
   ·rw[if_pos c];exact .inr rfl
   ·rw[if_neg c];exact .inl rfl
  (try simp (maxSteps:=999999) (disch:=try exact ZD) only[ZB,zmy,a1,e1])
  refine zil nn q2.1 w1.2 _ fun H2 k2=>?_
  have s2:=s1.keep0 k2
  (try simp (maxSteps:=999999) (disch:=try exact ZD) only[ZB])
  refine znv [.s w,.n nn] s2 (by decide) (by rfl) hk (fun d hd=>by
   simp only[List.mem_cons,List.not_mem_nil,or_false] at hd
   rcases hd with rfl | rfl
   ·exact⟨by omega,by omega⟩
   ·exact w1) (by simp) rfl (by simp only[List.length_append];omega) _ fun v' H3 s3=>?_
  (try simp (maxSteps:=999999) (disch:=try exact ZD) only[ZB])
  rw[List.append_assoc] at s3
  subst hw
  exact hR v' H3 s3
 by_cases c:ki=2
 ·have e:decide (ki=2)=true:=decide_eq_true c
  (try simp (maxSteps:=999999) (disch:=try exact ZD) only[ZB,zij,zm0,l0,a1,e0,e])
  refine hbody _ (by rw[if_neg (by omega)];rfl) _ fun v' H3 s3=>?_
  (try simp (maxSteps:=999999) (disch:=try exact ZD) only[ZB,zmz])
  exact⟨hlt,v',rfl,s3⟩
 ·have e:decide (ki=2)=false:=decide_eq_false c
  (try simp (maxSteps:=999999) (disch:=try exact ZD) only[ZB,zij,zm0,l0,a1,e0,e])
  refine hbody _ (by rw[if_pos (by omega)];rfl) _ fun v' H3 s3=>?_
  (try simp (maxSteps:=999999) (disch:=try exact ZD) only[ZB,zmz])
  exact⟨hlt,v',rfl,s3⟩
def zb4n (u:PUn):Prop:=(∀ x∈u.ins,(x.kind=1∨x.kind=2)∧zh5 x.n)∧∀ x∈u.outs,(x.kind=1∨x.kind=2)∧zh5 x.n
theorem zb6o {b P:Nat} {v:V} {l:List UInt8} {x:SyV} {s:Sy} (hs:SysAt H0 x s) (hu:∀ u∈s.uns,UnOk u) (hm:∀ u∈s.uns,zb4n u) (hn:s.uns.length≤100) (hl:l.length≤1000000000) (h:Hp H0 H (dwr b v l :: cel P (x.cs s) :: L)) (Q:Out→Heap→Prop)
  (hQ:∀ v' H',Hp H0 H' (dwr b v' (l ++ s.uns.flatMap zns) :: cel P (x.cs s) :: L)→Q (.brk 8 []) H') :
  wp (zba zbm zgi [ptr b 0,ptr P 0,i64 0]) Q H:=by
 obtain⟨ul,hU,hul⟩:=hs.uns
 have hlen:s.uns.length=ul.length:=by rw[← hul,List.length_map]
 have l0:=hU.out.len
 rw[← hlen] at l0
 have c0:(x.cs s)[5]? = some x.uv:=rfl
 refine zbo s.uns.length (by omega) (fun j vs H'=>∃ v',vs=[ptr b 0,ptr P 0,i64 j]∧Hp H0 H' (dwr b v' (l ++ (s.uns.take j).flatMap zns) :: cel P (x.cs s) :: L)) ⟨v,rfl,by simpa using h⟩ ?_
 rintro j vs H1 hj ⟨v1,rfl,s1⟩
 have g1:=s1.get (i:=1) rfl
 by_cases hlt:j < s.uns.length
 case neg =>
  have:j=s.uns.length:=by omega
  subst this
  rw[List.take_length] at s1
  (try simp (maxSteps:=999999) (disch:=try exact ZD) only[ZB,zgi,g1,c0,l0])
  exact hQ v1 H1 s1
 have hu1:=hU.keep0 s1.keeps
 have a1:=hu1.out.addr' (n:=2) rfl (k := .i64) (i:=j) (by omega) (by omega)
 rw[Int.toNat_natCast] at a1
 have e0:=fun {K:Heap} (hK:Keeps [] H0 K)=>(hU.keep0 hK).out.cell' (n:=2) rfl (i:=j) (off:=0) (by omega) (by omega) default
 have e1:=fun {K:Heap} (hK:Keeps [] H0 K)=>(hU.keep0 hK).out.cell' (n:=2) rfl (i:=j) (off:=1) (by omega) (by omega) default
 simp only[zbd,Nat.add_zero] at e0 e1
 have hat:=hU.at (i:=j) (by omega)
 have hok:=hu _ (zbh (d:=default) hlt)
 have hnm:=hm _ (zbh (d:=default) hlt)
 have hpj:s.uns.getD j default=(ul.getD j default).p:=by
  rw[← hul,List.getD_eq_getElem?_getD,List.getElem?_map,List.getD_eq_getElem?_getD,List.getElem?_eq_getElem (by omega)];rfl
 have hacc:((s.uns.take j).flatMap zns).length≤4000000 * (s.uns.take j).length:=zby fun p hp=>by
  obtain⟨r1,r2,r3,r4⟩:=hu p (List.mem_of_mem_take hp)
  exact z7k r1 r2 r3 r4
 have htl:(s.uns.take j).length=j:=by rw[List.length_take];omega
 rw[htl] at hacc
 rw[zc2 (d:=default) hlt]
 simp only[List.flatMap_append,List.flatMap_cons,List.flatMap_nil,List.append_nil]
 rw[hpj] at hok hnm ⊢
 have f0:(Flat.enc (ul.getD j default))[0]? = some (ul.getD j default).ins.v:=rfl
 have f1:(Flat.enc (ul.getD j default))[1]? = some (ul.getD j default).outs.v:=rfl
 rw[f0] at e0
 rw[f1] at e1
 generalize ul.getD j default=u at *
 obtain⟨r1,r2,r3,r4⟩:=hok
 obtain⟨m1,m2⟩:=hnm
 have hu0:(ze4 zbgo []).length≤60000:=zc7 (by decide) (by simp) (by simp)
 (try simp (maxSteps:=999999) (disch:=try exact ZD) only[ZB,zgi,zp7,g1,c0,l0])
 refine znv (w:=zbgo) [] s1 (by decide) (by rfl) (by decide) (by simp) (by simp) rfl (by simp only[List.length_append];omega) _ fun v2 H2 s2=>?_
 have g2:=s2.get (i:=1) rfl
 have e2:=e0 s2.keeps
 (try simp (maxSteps:=999999) (disch:=try exact ZD) only[ZB,g2,c0,a1,e2])
 refine zbv9 z34 (by decide) hat.1 m1 r1 (by simp only[List.length_append];omega) s2 _ fun v3 H3 s3=>?_
 have g3:=s3.get (i:=1) rfl
 have e3:=e1 s3.keeps
 have q1:(u.ins.xs.flatMap (zjl z34)).length≤60000 * u.ins.xs.length:=zby fun x hx=>zps (by decide) (r3 x hx)
 have r1':u.ins.xs.length≤32:=r1
 (try simp (maxSteps:=999999) (disch:=try exact ZD) only[ZB,g3,c0,a1,e3])
 refine zbv9 kPut (by decide) hat.2 m2 r2 (by simp only[List.length_append];omega) s3 _ fun v4 H4 s4=>?_
 (try simp (maxSteps:=999999) (disch:=try exact ZD) only[ZB,zp6])
 exact⟨hlt,v4,rfl,by
  simp only[List.append_assoc] at s4
  simp only[zns,List.append_assoc]
  exact s4⟩
structure DdOk (s:Sy):Prop where
 sh:ShOk s
 grs:∀ g∈s.grs,zh5 g.part∧zh5 g.point
 prs:∀ q∈s.prs,zh5 q.src∧zh5 q.dst∧zh5 q.cap∧1≤q.typ∧q.typ≤3
 wins:∀ w∈s.wins,(w.part = -1∨zh5 w.part)∧zh5 w.start∧zh5 w.len
 uns:∀ u∈s.uns,zb4n u
theorem zbye {b:Nat} {v:V} {l:List UInt8} {x:SyV} {s:Sy} (hs:SysAt H0 x s) (ok:DdOk s) (hl:l.length≤200000000) (h:Hp H0 H (dwr b v l :: L)) (Q:V→Heap→Prop)
  (hQ:∀ v' H',Hp H0 H' (dwr b v' (l ++ zxt s) :: L)→Q (.tuple #[]) H'):wp (zhy [ptr b 0,.agg (x.cs s).toArray]) Q H:=by
 show wp (zle (ptr b 0) (.agg (x.cs s).toArray)) Q H
 have ho:=hs.one
 have a1:=zby (f:=zr7) (m:=60000) fun p hp=>z2n (ok.sh.typ p hp)
 have a2:=zby (f:=zr8) (m:=60000) fun p hp=>z2o (ok.sh.grs p hp)
 have a3:=zby (f:=zkh) (m:=60000) fun p hp=>z2p (ok.sh.prs p hp)
 have a4:=zby (f:=zki) (m:=60000) fun p hp=>z2q (ok.sh.wins p hp)
 have o1:=ok.sh.pts;have o2:=ok.sh.grn;have o3:=ok.sh.prn;have o4:=ok.sh.win;have o5:=ok.sh.unn
 have s1:Hp H0 (H.push (some (.cells true (x.cs s)))) (dwr b v l :: cel H.next (x.cs s) :: L):=znu (h.newc _)
 unfold zle
 rw[z7,z7]
 refine (zb0 ho).mpr ?_
 generalize H.push (some (.cells true (x.cs s)))=H1 at *
 generalize H.next=P at *
 simp only[z7]
 refine zb6l hs ok.sh.typ ok.sh.pts (by omega) s1 _ fun bf2 H2 s2=>?_
 (try simp (maxSteps:=999999) (disch:=try exact ZD) only[ZB,zqb])
 refine zb6m hs ok.grs ok.sh.grn (by simp only[List.length_append];omega) s2 _ fun bf3 H3 s3=>?_
 (try simp (maxSteps:=999999) (disch:=try exact ZD) only[ZB,zqa])
 refine zb6n hs ok.prs ok.sh.prn (by simp only[List.length_append];omega) s3 _ fun bf4 H4 s4=>?_
 (try simp (maxSteps:=999999) (disch:=try exact ZD) only[ZB,zp9])
 refine zb30 hs ok.wins ok.sh.win (by simp only[List.length_append];omega) s4 _ fun bf5 H5 s5=>?_
 (try simp (maxSteps:=999999) (disch:=try exact ZD) only[ZB,zp8])
 refine zb6o hs ok.sh.uns ok.uns ok.sh.unn (by simp only[List.length_append];omega) s5 _ fun bf6 H6 s6=>?_
 have s7:=zm5 s6
 (try simp (maxSteps:=999999) (disch:=try exact ZD) only[ZB])
 refine hQ bf6 H6 ?_
 simp only[List.append_assoc] at s7
 simp only[zxt,List.append_assoc]
 exact s7
end Go.AM.Cap
