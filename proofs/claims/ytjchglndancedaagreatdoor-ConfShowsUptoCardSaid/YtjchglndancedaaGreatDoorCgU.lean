import Derived.Test.YtjchglndancedaaGreatDoorCgQ
import Derived.Test.YtjchglndancedaaGreatDoorAmIn
set_option linter.all false
/- conf, the document: the executive's Check, its loops -/
set_option maxHeartbeats 16000000
namespace Go.AM.Cap
open Go.AM Go.Proofs
variable {H:Heap}
theorem zb07 {P:Nat} {x:SyV} {s:Sy} {nu:Nat} (h:SysAt H x s) (g:H.get P=some (.cells true (x.cs s))) (lu:zw x.uv=some (i64 nu)) (Q:Out→Heap→Prop)
  (hbad:(s.grs.any fun y=>decide (y.part≥(nu:Int)))=true→Q (.ret [i64 270]) H) (hok:(s.grs.any fun y=>decide (y.part≥(nu:Int)))=false→Q (.brk 0 [ptr P 0]) H):wp (zba zbm zmu [ptr P 0,i64 0]) Q H:=by
 have hsm:=h.small
 have lg:=h.grs.len
 have c1:(x.cs s)[1]? = some x.gv:=rfl
 have c5:(x.cs s)[5]? = some x.uv:=rfl
 refine zbo s.grs.length (by omega) (fun j vs H'=>vs=[ptr P 0,i64 j]∧H'=H∧((s.grs.take j).any fun y=>decide (y.part≥(nu:Int)))=false) ⟨rfl,rfl,rfl⟩ ?_
 rintro j vs H1 hj ⟨rfl,rfl,ha⟩
 by_cases hlt:j < s.grs.length
 case neg =>
  have:j=s.grs.length:=by omega
  subst this
  rw[List.take_length] at ha
  (try simp (maxSteps:=999999) (disch:=try exact ZD) only[ZB,zmu,g,c1,lg])
  exact hok ha
 have a1:=h.grs.addr' (n:=3) rfl (k := .i64) (i:=(j:Int)) (by omega) (by omega)
 rw[Int.toNat_natCast] at a1
 have s0:=h.grs.cell' (n:=3) rfl (off:=0) hlt (by omega) default
 rw[zbd,Nat.add_zero] at s0
 have t0:(Flat.enc (s.grs.getD j default))[0]? = some (i64 (s.grs.getD j default).part):=rfl
 rw[t0] at s0
 have htk:s.grs.take (j + 1)=s.grs.take j ++ [s.grs.getD j default]:=by
  rw[List.getD_eq_getElem?_getD,List.getElem?_eq_getElem hlt];exact List.take_succ_eq_append_getElem hlt
 cases hd:decide ((s.grs.getD j default).part≥(nu:Int)) with
 | true =>
  (try simp (maxSteps:=999999) (disch:=try exact ZD) only[ZB,zmu,zw9,g,c1,c5,lg,lu,a1,s0,hd])
  exact hbad (List.any_eq_true.2 ⟨_,zbh hlt,hd⟩)
 | false =>
  (try simp (maxSteps:=999999) (disch:=try exact ZD) only[ZB,zmu,zw9,z6n,g,c1,c5,lg,lu,a1,s0,hd])
  refine⟨hlt,rfl,?_⟩
  rw[htk,List.any_append,ha]
  simpa using hd
theorem zb08 {P:Nat} {x:SyV} {s:Sy} {nu:Nat} (h:SysAt H x s) (g:H.get P=some (.cells true (x.cs s))) (lu:zw x.uv=some (i64 nu)) (Q:Out→Heap→Prop)
  (hbad:(s.prs.any fun y=>decide (y.src≥(nu:Int)∨y.dst≥(nu:Int)))=true→Q (.ret [i64 270]) H) (hok:(s.prs.any fun y=>decide (y.src≥(nu:Int)∨y.dst≥(nu:Int)))=false→Q (.brk 2 [ptr P 0]) H):wp (zba zbm zjh [ptr P 0,i64 0]) Q H:=by
 have hsm:=h.small
 have lq:=h.prs.len
 have c2:(x.cs s)[2]? = some x.qv:=rfl
 have c5:(x.cs s)[5]? = some x.uv:=rfl
 refine zbo s.prs.length (by omega) (fun j vs H'=>vs=[ptr P 0,i64 j]∧H'=H∧((s.prs.take j).any fun y=>decide (y.src≥(nu:Int)∨y.dst≥(nu:Int)))=false) ⟨rfl,rfl,rfl⟩ ?_
 rintro j vs H1 hj ⟨rfl,rfl,ha⟩
 by_cases hlt:j < s.prs.length
 case neg =>
  have:j=s.prs.length:=by omega
  subst this
  rw[List.take_length] at ha
  (try simp (maxSteps:=999999) (disch:=try exact ZD) only[ZB,zjh,g,c2,lq])
  exact hok ha
 have a1:=h.prs.addr' (n:=5) rfl (k := .i64) (i:=(j:Int)) (by omega) (by omega)
 rw[Int.toNat_natCast] at a1
 have s1:=h.prs.cell' (n:=5) rfl (off:=1) hlt (by omega) default
 have s2:=h.prs.cell' (n:=5) rfl (off:=2) hlt (by omega) default
 rw[zbd] at s1 s2
 have t1:(Flat.enc (s.prs.getD j default))[1]? = some (i64 (s.prs.getD j default).src):=rfl
 have t2:(Flat.enc (s.prs.getD j default))[2]? = some (i64 (s.prs.getD j default).dst):=rfl
 rw[t1] at s1
 rw[t2] at s2
 have htk:s.prs.take (j + 1)=s.prs.take j ++ [s.prs.getD j default]:=by
  rw[List.getD_eq_getElem?_getD,List.getElem?_eq_getElem hlt];exact List.take_succ_eq_append_getElem hlt
 have hmem:=zbh (d:=default) hlt
 by_cases d1:(s.prs.getD j default).src≥(nu:Int)
 ·have e1:decide ((s.prs.getD j default).src≥(nu:Int))=true:=decide_eq_true d1
  (try simp (maxSteps:=999999) (disch:=try exact ZD) only[ZB,zjh,zrx,g,c2,c5,lq,lu,a1,s1,s2,e1])
  exact hbad (List.any_eq_true.2 ⟨_,hmem,decide_eq_true (.inl d1)⟩)
 have e1:decide ((s.prs.getD j default).src≥(nu:Int))=false:=decide_eq_false d1
 by_cases d2:(s.prs.getD j default).dst≥(nu:Int)
 ·have e2:decide ((s.prs.getD j default).dst≥(nu:Int))=true:=decide_eq_true d2
  (try simp (maxSteps:=999999) (disch:=try exact ZD) only[ZB,zjh,zrx,g,c2,c5,lq,lu,a1,s1,s2,e1,e2])
  exact hbad (List.any_eq_true.2 ⟨_,hmem,decide_eq_true (.inr d2)⟩)
 ·have e2:decide ((s.prs.getD j default).dst≥(nu:Int))=false:=decide_eq_false d2
  (try simp (maxSteps:=999999) (disch:=try exact ZD) only[ZB,zjh,zrx,z6o,g,c2,c5,lq,lu,a1,s1,s2,e1,e2])
  refine⟨hlt,rfl,?_⟩
  rw[htk,List.any_append,ha,List.any_cons,decide_eq_false (by rintro (q | q);exact d1 q;exact d2 q)]
  rfl
end Go.AM.Cap

/- conf, the document: the executive's Check, the units -/
set_option maxHeartbeats 16000000
namespace Go.AM.Cap
open Go.AM Go.Proofs
theorem zb09 {H:Heap} {x:SyV} {s:Sy} {p:Nat} {ul:List Un} (hc:(chkB s.pts s.grs).2=0) (h:SysAt H x s) (hu:Units H x.uv ul) (hul:ul.map Un.p=s.uns) (g:H.get p=some (.cells true (x.cs s))) (Q:Out→Heap→Prop)
  (hbad:zhr s s.uns s.uns.length=true→∀ H',Keeps [] H H'→Q (.ret [i64 270]) H') (hok:zhr s s.uns s.uns.length=false→∀ H',Keeps [] H H'→Q (.brk 4 []) H') :
  wp (zba zbm zry [ptr p 0,i64 0]) Q H:=by
 have hn:s.uns.length=ul.length:=by rw[← hul,List.length_map]
 have hsm:=h.small
 have h7:(x.cs s).length=7:=rfl
 have c5:(x.cs s)[5]? = some x.uv:=rfl
 refine zbo ul.length (by omega) (fun j vs H'=>vs=[ptr p 0,i64 j]∧Keeps [] H H'∧zhr s s.uns (ul.length - j)=zhr s s.uns s.uns.length) ⟨rfl,Keeps.refl _ _,by rw[hn];rfl⟩ ?_
 rintro j vs H2 hj ⟨rfl,k2,hgo⟩
 have hs2:=h.keep0 k2
 have hu2:=hu.keep0 k2
 have g2:=k2.get g (by simp)
 have hlen:=hu2.out.len
 by_cases hlt:j < ul.length
 case neg =>
  have:j=ul.length:=by omega
  subst this
  rw[Nat.sub_self] at hgo
  (try simp (maxSteps:=999999) (disch:=try exact ZD) only[ZB,zry,g2,c5,hlen])
  exact hok (by rw[← hgo];rfl) _ k2
 have hat:=hu2.at hlt
 have hpj:s.uns.getD j default=(ul.getD j default).p:=by
  rw[← hul,List.getD_eq_getElem?_getD,List.getElem?_map,List.getD_eq_getElem?_getD,List.getElem?_eq_getElem hlt];rfl
 rw[show ul.length - j=(ul.length - j - 1) + 1 by omega] at hgo
 simp only[zhr] at hgo
 rw[show s.uns.length - (ul.length - j - 1 + 1)=j by omega,hpj] at hgo
 have a1:=hu2.out.addr' (n:=2) rfl (k := .i64) (i:=j) (by omega) (by omega)
 rw[Int.toNat_natCast] at a1
 have s0:=hu2.out.cell' (n:=2) rfl (off:=0) hlt (by omega) default
 rw[zbd,Nat.add_zero] at s0
 have t0:(Flat.enc (ul.getD j default))[0]? = some (ul.getD j default).ins.v:=rfl
 rw[t0] at s0
 have d2:=fun Q=>zbb (n:=7) (Q:=Q) g2 h7
 (try simp (maxSteps:=999999) (disch:=try exact ZD) only[ZA,zo,zn,zm,zk,zi,zj,zg,ze,zry,z6q,g2,c5,hlen,d2,a1,s0])
 refine zbm4 hs2 hat.1 j false _ fun H4 k4=>?_
 rw[zbv6 hc]
 have k24:=k2.trans k4 (fun _ _ h=>h)
 simp only[Un.p] at hgo
 cases hb1:zlg s j (ul.getD j default).ins.xs false with
 | false =>
  rw[hb1,Bool.not_false,Bool.true_or] at hgo
  (try simp (maxSteps:=999999) (disch:=try exact ZD) only[ZB])
  exact hbad hgo.symm _ k24
 | true =>
  have g4:=k4.get g2 (by simp)
  have hu4:=hu2.keep0 k4
  have s1:=hu4.out.cell' (n:=2) rfl (off:=1) hlt (by omega) default
  rw[zbd] at s1
  have t1:(Flat.enc (ul.getD j default))[1]? = some (ul.getD j default).outs.v:=rfl
  rw[t1] at s1
  have d4:=fun Q=>zbb (n:=7) (Q:=Q) g4 h7
  (try simp (maxSteps:=999999) (disch:=try exact ZD) only[ZA,zo,zn,zm,zk,zi,zj,zg,ze,d4,g4,c5,a1,s1])
  refine zbm4 (hs2.keep0 k4) (hat.2.keep0 k4) j true _ fun H5 k5=>?_
  rw[zbv6 hc]
  have k25:=k24.trans k5 (fun _ _ h=>h)
  cases hb2:zlg s j (ul.getD j default).outs.xs true with
  | false =>
   rw[hb1,hb2,Bool.not_false,Bool.not_true,Bool.false_or,Bool.true_or] at hgo
   (try simp (maxSteps:=999999) (disch:=try exact ZD) only[ZB])
   exact hbad hgo.symm _ k25
  | true =>
   rw[hb1,hb2,Bool.not_true,Bool.false_or,Bool.false_or] at hgo
   (try simp (maxSteps:=999999) (disch:=try exact ZD) only[ZB,z6p])
   exact⟨hlt,rfl,k25,by rw[← hgo];congr 1⟩
end Go.AM.Cap

/- conf, the document: the executive's Check -/
set_option maxHeartbeats 16000000
namespace Go.AM.Cap
open Go.AM Go.Proofs
theorem zbx9 {H:Heap} {x:SyV} {s:Sy} (h:SysAt H x s) (Q:V→Heap→Prop) (hQ:∀ H',Keeps [] H H'→Q (i64 (exE s)) H'):wp (ztl [.agg (x.cs s).toArray]) Q H:=by
 show wp (zzx (.agg (x.cs s).toArray)) Q H
 have ho:=h.one
 have hsm:=h.small
 obtain⟨ul,hu,hul⟩:=h.uns
 have hn:s.uns.length=ul.length:=by rw[← hul,List.length_map]
 have hlen:=hu.out.len
 have k1:Keeps [] H (H.push (some (.cells true (x.cs s)))):=Keeps.push _ _ _
 have g1:(H.push (some (.cells true (x.cs s)))).get H.next=some (.cells true (x.cs s)):=Heap.get_push_self _ _
 unfold zzx
 rw[z7,z7]
 refine (zb0 ho).mpr ?_
 generalize H.push (some (.cells true (x.cs s)))=H1 at *
 have c0:(x.cs s)[0]? = some x.pv:=rfl
 have c1:(x.cs s)[1]? = some x.gv:=rfl
 have c2:(x.cs s)[2]? = some x.qv:=rfl
 have c5:(x.cs s)[5]? = some x.uv:=rfl
 have c6:(x.cs s)[6]? = some (i64 s.millis):=rfl
 (try simp (maxSteps:=999999) (disch:=try exact ZD) only[ZB,g1,c0,c1])
 refine z7o (h.pts.keep0 k1) (h.grs.keep0 k1) (by omega) _ fun H2 k2=>?_
 have k02:=k1.trans k2 (fun _ _ h=>h)
 have g2:=k2.get g1 (by simp)
 unfold exE at hQ
 by_cases e1:(chkB s.pts s.grs).2=0
 case neg =>
  have q:=hQ _ k02
  rw[if_pos e1] at q
  (try simp (maxSteps:=999999) (disch:=try exact ZD) only[ZB])
  exact q
 rw[if_neg (by simp[e1])] at hQ
 (try simp (maxSteps:=999999) (disch:=try exact ZD) only[ZB,z3p,g2,c2])
 refine z7c H2 x.qv s.prs (h.prs.keep0 k02) _ fun H3 k3=>?_
 have k03:=k02.trans k3 (fun _ _ h=>h)
 have g3:=k3.get g2 (by simp)
 by_cases e2:(chkP s.prs).2=0
 case neg =>
  have q:=hQ _ k03
  rw[if_pos e2] at q
  (try simp (maxSteps:=999999) (disch:=try exact ZD) only[ZB])
  exact q
 rw[if_neg (by simp[e2])] at hQ
 have d3:∀ Q,wp (ldn 2 (ptr H.next 3)) Q H3↔Q (.agg [i64 s.frame,x.wv].toArray) H3:=fun Q=>by
  rw[zbz,g3,zy2 (by show 3 + 2≤7;omega)]
  rfl
 (try simp (maxSteps:=999999) (disch:=try exact ZD) only[ZA,zo,zn,zm,zk,zi,zj,zg,ze,z3o,d3,g3,c5,hlen])
 refine zb05 s.frame (ul.length:Int) (h.wins.keep0 k03) (by omega) _ fun a H4 k4=>?_
 have k04:=k03.trans k4 (fun _ _ h=>h)
 have g4:=k4.get g3 (by simp)
 by_cases e3:zsn s.frame s.wins s.uns.length=0
 case neg =>
  have q:=hQ _ k04
  rw[if_pos e3] at q
  rw[hn] at e3 q
  (try simp (maxSteps:=999999) (disch:=try exact ZD) only[ZB])
  exact q
 rw[if_neg (by simp[e3])] at hQ
 rw[hn] at e3
 rw[e3]
 have hbad:(s.millis < 1∨s.millis > 10000∨(s.grs.any fun g=>decide (g.part≥s.uns.length))=true∨(s.prs.any fun p=>decide (p.src≥s.uns.length∨p.dst≥s.uns.length))=true)→Q (i64 270) H4:=fun hc=>by
  have q:=hQ _ k04
  rw[if_pos hc] at q
  exact q
 rw[hn] at hbad
 by_cases f1:s.millis < 1
 ·(try simp (maxSteps:=999999) (disch:=try exact ZD) only[ZB,zo7,g4,c6])
  exact hbad (.inl f1)
 by_cases f2:s.millis > 10000
 ·(try simp (maxSteps:=999999) (disch:=try exact ZD) only[ZB,zo7,g4,c6])
  exact hbad (.inr (.inl f2))
 (try simp (maxSteps:=999999) (disch:=try exact ZD) only[ZB,zo7,g4,c6,z3n])
 refine zb07 (h.keep0 k04) g4 hlen _ (fun f3=>?_) fun f3=>?_
 ·(try simp (maxSteps:=999999) (disch:=try exact ZD) only[ZB])
  exact hbad (.inr (.inr (.inl f3)))
 (try simp (maxSteps:=999999) (disch:=try exact ZD) only[ZB,z3m])
 refine zb08 (h.keep0 k04) g4 hlen _ (fun f4=>?_) fun f4=>?_
 ·(try simp (maxSteps:=999999) (disch:=try exact ZD) only[ZB])
  exact hbad (.inr (.inr (.inr f4)))
 rw[if_neg (by rw[hn];rintro (q | q | q | q);exact f1 q;exact f2 q;rw[f3] at q;cases q;rw[f4] at q;cases q)] at hQ
 (try simp (maxSteps:=999999) (disch:=try exact ZD) only[ZB,z3l])
 refine zb09 e1 (h.keep0 k04) (hu.keep0 k04) hul g4 _ (fun hb H7 k7=>?_) fun hb H7 k7=>?_
 ·have q:=hQ _ (k04.trans k7 (fun _ _ h=>h))
  rw[if_pos hb] at q
  (try simp (maxSteps:=999999) (disch:=try exact ZD) only[ZB])
  exact q
 ·have q:=hQ _ (k04.trans k7 (fun _ _ h=>h))
  rw[if_neg (by simp[hb])] at q
  (try simp (maxSteps:=999999) (disch:=try exact ZD) only[ZB,z6r])
  exact q
end Go.AM.Cap

/- conf (after PnS, points): the document's bank -/
set_option maxHeartbeats 8000000
namespace Go.AM.Cap
open Go.AM Go.Proofs
structure Stg where
 part:Int
 point:Int
 n:Int
 deriving DecidableEq,Inhabited
instance:Flat Stg:=⟨3,fun s=>[i64 s.part,i64 s.point,i64 s.n],fun _=>rfl,fun _=>rfl,by decide⟩
structure Rk where
 ls:List Pt
 gs:List Gr
 vs:List Int
 fb:List Bool
 tv:List Int
 ss:List Stg
structure RL where
 p:Nat
 lv:V
 gv:V
 va:Nat
 fa:Nat
 ta:Nat
 sv:V
def RL.wr (x:RL):List Nat:=[x.p,x.va,x.fa,x.ta]
def RL.foot (x:RL):List Nat:=x.p :: x.va :: x.fa :: x.ta :: (vb x.lv ++ (vb x.gv ++ vb x.sv))
structure RbR (H:Heap) (x:RL) (R:Rk):Prop where
 obj:H.get x.p=some (.cells true [x.lv,x.gv,slc x.va 0 1 R.ls.length R.ls.length,slc x.fa 0 1 R.ls.length R.ls.length,slc x.ta 0 1 R.ls.length R.ls.length,x.sv])
 pts:Sl H x.lv R.ls
 grs:Sl H x.gv R.gs
 vs:H.get x.va=some (.cells true (zbj R.vs))
 fb:H.get x.fa=some (.cells true (zbj R.fb))
 tv:H.get x.ta=some (.cells true (zbj R.tv))
 ss:Sl H x.sv R.ss
 lv:R.vs.length=R.ls.length
 lf:R.fb.length=R.ls.length
 lt:R.tv.length=R.ls.length
 small:R.ls.length≤64
 gsm:R.gs.length≤300000
 ssm:R.ss.length≤1000
 rs:∀ e∈R.ss,0≤e.point∧e.point < R.ls.length
 dis:x.wr.Nodup
 ap:∀ b∈vb x.lv ++ (vb x.gv ++ vb x.sv),b ∉ x.wr
theorem RbR.keep {S:List Nat} {H H':Heap} {x:RL} {R:Rk} (h:RbR H x R) (hk:Keeps S H H') (hd:∀ b∈x.foot,b ∉ S):RbR H' x R :=
 ⟨hk.get h.obj (hd _ (by simp[RL.foot])),h.pts.keep hk (fun b hb=>hd b (by simp[RL.foot,hb])),h.grs.keep hk (fun b hb=>hd b (by simp[RL.foot,hb])),hk.get h.vs (hd _ (by simp[RL.foot])),hk.get h.fb (hd _ (by simp[RL.foot])),hk.get h.tv (hd _ (by simp[RL.foot])),h.ss.keep hk (fun b hb=>hd b (by simp[RL.foot,hb])),h.lv,h.lf,h.lt,h.small,h.gsm,h.ssm,h.rs,h.dis,h.ap⟩
theorem RbR.keep0 {H H':Heap} {x:RL} {R:Rk} (h:RbR H x R) (hk:Keeps [] H H'):RbR H' x R:=h.keep hk (by simp)
theorem zbm5 {α:Type} [Flat α] {H:Heap} {b n bytes:Nat} {xv:V} {xs:List α} {Q:V→Heap→Prop} (hs:Flat.size α=n) (hb:H.get b=some (.cells true [])) (hx:Sl H xv xs) (hn:xs.length * n≤1000000) (hl:xs.length≤1000000) (hby:bytes≤1000)
  (hQ:∀ w H',Sl H' w xs→Keeps [b] H H'→(∀ c∈vb w,c=b∨H.next≤c)→Q w H'):wp (zd0 n bytes (slc b 0 n 0 0) xv) Q H:=by
 refine zbmm hs hb hx hn hl hby fun w H2 hw=>?_
 subst hs
 rcases hw with⟨rfl,rfl,rfl⟩ | ⟨rfl,hg,hk,_,_⟩
 ·exact hQ _ _ (.inr ⟨_,_,_,_,rfl,Nat.le_refl _,Heap.get_lt hb,.inl rfl,.inr rfl⟩) (Keeps.refl _ _) (by simp)
 ·refine hQ _ _ (.inr ⟨_,_,_,_,rfl,Nat.le_refl _,Heap.get_lt hg,.inr ⟨_,_,hg,by rw[zb6];omega,?_⟩,.inr rfl⟩) hk (by simp)
  rw[List.drop_zero,List.take_of_length_le (by rw[zb6];exact Nat.le_refl _)]
def newR (ls:List Pt) (gs:List Gr):Rk:=⟨ls,gs,List.replicate ls.length 0,List.replicate ls.length false,List.replicate ls.length 0,[]⟩
theorem zbpc {H:Heap} {lv gv:V} {ls:List Pt} {gs:List Gr} (hl:Sl H lv ls) (hg:Sl H gv gs) (hn:gs.length≤300000) (Q:V→Heap→Prop)
  (hbad:(chkB ls gs).2≠0→∀ H',Keeps [] H H'→Q (.tuple #[.pointer none,i64 (chkB ls gs).2]) H')
  (hQ:(chkB ls gs).2=0→∀ x H',RbR H' x (newR ls gs)→Keeps [] H H'→(∀ b∈x.foot,H.next≤b)→Q (.tuple #[ptr x.p 0,i64 0]) H'):wp (zyl [lv,gv]) Q H:=by
 show wp (z6s lv gv) Q H
 simp only[z6s,z7]
 refine z7o hl hg (by omega) _ fun H1 k1=>?_
 by_cases he:(chkB ls gs).2≠0
 ·(try simp (maxSteps:=999999) (disch:=try exact ZD) only[ZB])
  exact hbad he H1 k1
 have he0:(chkB ls gs).2=0:=Decidable.not_not.mp he
 obtain⟨hsm,_,hgr⟩:=zqc he0
 have hl1:=hl.keep0 k1
 have hg1:=hg.keep0 k1
 have hll:=hl1.len
 (try simp (maxSteps:=999999) (disch:=try exact ZD) only[ZB,zbdh,hll,zpw])
 have kp:=zbiq 5 H1
 have hnr:=zbmo 5 H1
 have hfr:∀ b,H1.next≤b→(zuy H1 5).get b=none:=fun b hb=>zbmn hb
 generalize zuy H1 5=R0 at *
 refine ztv (cs:=[]) (hfr _ (by omega)) (by omega) (by decide) (by rfl) ?_
 have ks0:Keeps [] H1 (R0.set H1.next (some (.cells true []))):=zb7 kp (.inr (by omega))
 have hs0:=Heap.get_set_self (H:=R0) (b:=H1.next) (x:=some (.cells true [])) (by omega)
 have hf0:∀ b,H1.next < b→(R0.set H1.next (some (.cells true []))).get b=none:=fun b hb=>by rw[Heap.get_set_ne _ _ _ (by omega)];exact hfr b (by omega)
 have hn0:(R0.set H1.next (some (.cells true []))).next=H1.next + 5:=by simp[hnr]
 generalize R0.set H1.next (some (.cells true []))=R1 at *
 (try simp (maxSteps:=999999) (disch:=try exact ZD) only[ZB])
 refine zbm5 (α:=Pt) rfl hs0 (hl1.keep0 ks0) (by omega) (by omega) (by omega) fun w H2 hw k2 fw=>?_
 have hn2:=k2.next
 have k12:Keeps [] H1 H2:=ks0.trans k2 (fun b hb hm=>by simp at hm;omega)
 have hf2:∀ b,H1.next < b→b < H1.next + 5→H2.get b=none:=fun b h1 h2=>by rw[k2.same b (by omega) (by simp;omega)];exact hf0 b h1
 have f1:zdq R1 [H1.next + 1,H1.next + 2,H1.next + 3,H1.next + 4]=true:=zpb fun b hb=>by
  simp only[List.mem_cons,List.not_mem_nil,or_false] at hb
  exact⟨hf0 b (by omega),by omega⟩
 have f2:zdq H2 [H1.next + 1,H1.next + 2,H1.next + 3,H1.next + 4]=true:=zpb fun b hb=>by
  simp only[List.mem_cons,List.not_mem_nil,or_false] at hb
  exact⟨hf2 b (by omega) (by omega),by omega⟩
 (try simp (maxSteps:=999999) (disch:=try exact ZD) only[ZB,f1,f2,Bool.and_true])
 refine ztv (cs:=[]) (hf2 _ (by omega) (by omega)) (by omega) (by decide) (by rfl) ?_
 have ks2:Keeps [] H1 (H2.set (H1.next + 1) (some (.cells true []))):=zb7 k12 (.inr (by omega))
 have ks2':Keeps [H1.next + 1] H2 (H2.set (H1.next + 1) (some (.cells true []))):=zb7 (Keeps.refl _ _) (.inl (by simp))
 have hs2:=Heap.get_set_self (H:=H2) (b:=H1.next + 1) (x:=some (.cells true [])) (by omega)
 have hf2':∀ b,H1.next + 1 < b→b < H1.next + 5→(H2.set (H1.next + 1) (some (.cells true []))).get b=none:=fun b h1 h2=>by rw[Heap.get_set_ne _ _ _ (by omega)];exact hf2 b (by omega) h2
 have hn2':(H2.set (H1.next + 1) (some (.cells true []))).next=H2.next:=by simp
 have hw2:=hw.keep ks2' (fun b hb hm=>by have:=fw b hb;simp at hm;omega)
 generalize H2.set (H1.next + 1) (some (.cells true []))=R2 at *
 (try simp (maxSteps:=999999) (disch:=try exact ZD) only[ZB])
 refine zbm5 (α:=Gr) rfl hs2 (hg1.keep0 ks2) (by omega) (by omega) (by omega) fun u H3 hu k3 fu=>?_
 have hn3:=k3.next
 have k13:Keeps [] H1 H3:=ks2.trans k3 (fun b hb hm=>by simp at hm;omega)
 have hf3:∀ b,H1.next + 1 < b→b < H1.next + 5→H3.get b=none:=fun b h1 h2=>by rw[k3.same b (by omega) (by simp;omega)];exact hf2' b h1 h2
 have hw3:=hw2.keep k3 (fun b hb hm=>by have:=fw b hb;simp at hm;omega)
 have f3:zdq R2 [H1.next + 2,H1.next + 3,H1.next + 4]=true:=zpb fun b hb=>by
  simp only[List.mem_cons,List.not_mem_nil,or_false] at hb
  exact⟨hf2' b (by omega) (by omega),by omega⟩
 have f4:zdq H3 [H1.next + 2,H1.next + 3,H1.next + 4]=true:=zpb fun b hb=>by
  simp only[List.mem_cons,List.not_mem_nil,or_false] at hb
  exact⟨hf3 b (by omega) (by omega),by omega⟩
 have hwo:=hw.isOne
 have huo:=hu.isOne
 (try simp (maxSteps:=999999) (disch:=try exact ZD) only[ZB,f3,f4,Bool.and_true])
 refine zm9 (n:=ls.length) (c:=ls.length) (hf3 _ (by omega) (by omega)) (by omega) (by decide) (Nat.le_refl _) (by omega) (by omega) ?_
 rw[z0e (0:Int) _ (by rfl)]
 (try simp (maxSteps:=999999) (disch:=try exact ZD) only[ZB])
 refine zm9 (n:=ls.length) (c:=ls.length) (by rw[Heap.get_set_ne _ _ _ (by omega)];exact hf3 _ (by omega) (by omega)) (by simp;omega) (by decide) (Nat.le_refl _) (by omega) (by omega) ?_
 rw[z0e false _ (by rfl)]
 (try simp (maxSteps:=999999) (disch:=try exact ZD) only[ZB])
 refine zm9 (n:=ls.length) (c:=ls.length) (by rw[Heap.get_set_ne _ _ _ (by omega),Heap.get_set_ne _ _ _ (by omega)];exact hf3 _ (by omega) (by omega)) (by simp;omega) (by decide) (Nat.le_refl _) (by omega) (by omega) ?_
 rw[z0e (0:Int) _ (by rfl)]
 generalize hb0:H1.next=b0 at *
 generalize hH4:(((H3.set (b0 + 2) (some (.cells true (zbj (List.replicate ls.length (0:Int)))))).set (b0 + 3) (some (.cells true (zbj (List.replicate ls.length false))))).set (b0 + 4) (some (.cells true (zbj (List.replicate ls.length (0:Int))))))=H4
 have hn4:H4.next=H3.next:=by rw[← hH4];simp
 have g2:H4.get (b0 + 2)=some (.cells true (zbj (List.replicate ls.length (0:Int)))):=by rw[← hH4,Heap.get_set_ne _ _ _ (by omega),Heap.get_set_ne _ _ _ (by omega),Heap.get_set_self (by omega)]
 have g3:H4.get (b0 + 3)=some (.cells true (zbj (List.replicate ls.length false))):=by rw[← hH4,Heap.get_set_ne _ _ _ (by omega),Heap.get_set_self (by simp;omega)]
 have g4:H4.get (b0 + 4)=some (.cells true (zbj (List.replicate ls.length (0:Int)))):=by rw[← hH4,Heap.get_set_self (by simp;omega)]
 have k4:Keeps [b0 + 2,b0 + 3,b0 + 4] H3 H4:=by
  rw[← hH4]
  exact zb7 (zb7 (zb7 (Keeps.refl _ _) (.inl (by simp))) (.inl (by simp))) (.inl (by simp))
 have k14:Keeps [] H1 H4:=k13.trans k4 (fun b hb hm=>by simp at hm;omega)
 have hw4:=hw3.keep k4 (fun b hb hm=>by have:=fw b hb;simp at hm;omega)
 have hu4:=hu.keep k4 (fun b hb hm=>by have:=fu b hb;simp at hm;omega)
 clear hH4
 (try simp (maxSteps:=999999) (disch:=try exact ZD) only[ZB,hwo,huo])
 refine (zb0 (by simp[hwo,huo])).mpr ?_
 (try simp (maxSteps:=999999) (disch:=try exact ZD) only[ZB])
 have kp5:=Keeps.push [] H4 (some (.cells true [w,u,slc (b0 + 2) 0 1 ls.length ls.length,slc (b0 + 3) 0 1 ls.length ls.length,slc (b0 + 4) 0 1 ls.length ls.length,.slice none 0 0]))
 have k5:Keeps [] H (H4.push (some (.cells true [w,u,slc (b0 + 2) 0 1 ls.length ls.length,slc (b0 + 3) 0 1 ls.length ls.length,slc (b0 + 4) 0 1 ls.length ls.length,.slice none 0 0]))):=(k1.trans k14 (fun _ _ h=>h)).trans kp5 (fun _ _ h=>h)
 have hkn:=k1.next
 refine hQ he0 ⟨H4.next,w,u,b0 + 2,b0 + 3,b0 + 4,.slice none 0 0⟩ _ ⟨Heap.get_push_self _ _,hw4.keep0 kp5,hu4.keep0 kp5,kp5.get g2 (by simp),kp5.get g3 (by simp),kp5.get g4 (by simp),Sl.nil _,by simp[newR],by simp[newR],by simp[newR],hsm,hn,by simp[newR],by simp[newR],?_,?_⟩ k5 ?_
 ·simp only[RL.wr,List.nodup_cons,List.mem_cons,List.not_mem_nil,or_false,not_or,not_false_eq_true,List.nodup_nil,and_true]
  omega
 ·intro b hb hm
  simp only[RL.wr,List.mem_cons,List.not_mem_nil,or_false,List.mem_append] at hb hm
  rcases hb with hb | hb | hb
  ·have:=fw b hb;have:=hw4.lt b hb;omega
  ·have:=fu b hb;have:=hu4.lt b hb;omega
  ·simp at hb
 ·intro b hb
  simp only[RL.foot,List.mem_cons,List.mem_append] at hb
  rcases hb with rfl | rfl | rfl | rfl | hb | hb | hb
  ·omega
  ·omega
  ·omega
  ·omega
  ·have:=fw b hb;omega
  ·have:=fu b hb;omega
  ·simp at hb
end Go.AM.Cap
