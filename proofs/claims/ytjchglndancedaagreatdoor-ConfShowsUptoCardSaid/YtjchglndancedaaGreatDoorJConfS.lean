import Derived.Test.YtjchglndancedaaGreatDoorJConf
import Derived.Test.YtjchglndancedaaGreatDoorCfBs
import Derived.Test.YtjchglndancedaaGreatDoorAmOpenN
set_option linter.all false
/- conf: a setup among the arguments; what is known of the builders and of Itoa -/
namespace Go.AM.Cap
open Go.AM Go.Proofs Go.Proofs.YtjchglndancedaaGreatDoor Go.ChangeShapes Go.WideShapes Go.RowKit
section
variable {H:Type} {enc:TypeId × Value→H} {P:Program} {W:World}
theorem zb6b {t ti tb:TypeId} (hk:zcg P t [ti,tb]=true) (hi:P.underlying ti=some (.int .i64)) (hb:P.underlying tb=some .bool) (n:Nat) (cs:List Value) (x:DataW H × List MemPlace) (h:DataW.trod enc P W 0 (fun _=>true) true n t cs=some x) :
  ∃ a:Pt,cs.map (znb W.heap.size)=Flat.enc a:=by
 obtain⟨hl,m,ds,hdl,hx,hr⟩:=zpz hk h
 obtain⟨c0,d0,e0,f0,r0⟩:=hr 0 ti rfl
 obtain⟨c1,d1,e1,f1,r1⟩:=hr 1 tb rfl
 obtain⟨a,ha,_,_⟩:=DataW.trod_int hi r0
 obtain⟨b,hb',_⟩:=DataW.trod_bool hb r1
 cases ha;cases hb'
 match cs,hl with
 | [_,_],_ =>
  simp only[List.getElem?_cons_zero,List.getElem?_cons_succ] at e0 e1
  cases e0;cases e1
  exact⟨⟨a,b⟩,rfl⟩
theorem zb6c {t ti tb:TypeId} (hk:zcg P t [ti,ti,tb]=true) (hi:P.underlying ti=some (.int .i64)) (hb:P.underlying tb=some .bool) (n:Nat) (cs:List Value) (x:DataW H × List MemPlace) (h:DataW.trod enc P W 0 (fun _=>true) true n t cs=some x) :
  ∃ a:Gr,cs.map (znb W.heap.size)=Flat.enc a:=by
 obtain⟨hl,m,ds,hdl,hx,hr⟩:=zpz hk h
 obtain⟨c0,d0,e0,f0,r0⟩:=hr 0 ti rfl
 obtain⟨c1,d1,e1,f1,r1⟩:=hr 1 ti rfl
 obtain⟨c2,d2,e2,f2,r2⟩:=hr 2 tb rfl
 obtain⟨a,ha,_,_⟩:=DataW.trod_int hi r0
 obtain⟨b,hb',_,_⟩:=DataW.trod_int hi r1
 obtain⟨c,hc',_⟩:=DataW.trod_bool hb r2
 cases ha;cases hb';cases hc'
 match cs,hl with
 | [_,_,_],_ =>
  simp only[List.getElem?_cons_zero,List.getElem?_cons_succ] at e0 e1 e2
  cases e0;cases e1;cases e2
  exact⟨⟨a,b,c⟩,rfl⟩
theorem zb01 {t ti:TypeId} (hk:zcg P t [ti,ti,ti,ti,ti]=true) (hi:P.underlying ti=some (.int .i64)) (n:Nat) (cs:List Value) (x:DataW H × List MemPlace) (h:DataW.trod enc P W 0 (fun _=>true) true n t cs=some x) :
  ∃ a:Port,cs.map (znb W.heap.size)=Flat.enc a:=by
 obtain⟨hl,m,ds,hdl,hx,hr⟩:=zpz hk h
 obtain⟨c0,d0,e0,f0,r0⟩:=hr 0 ti rfl
 obtain⟨c1,d1,e1,f1,r1⟩:=hr 1 ti rfl
 obtain⟨c2,d2,e2,f2,r2⟩:=hr 2 ti rfl
 obtain⟨c3,d3,e3,f3,r3⟩:=hr 3 ti rfl
 obtain⟨c4,d4,e4,f4,r4⟩:=hr 4 ti rfl
 obtain⟨b0,h0,_,_⟩:=DataW.trod_int hi r0
 obtain⟨b1,h1,_,_⟩:=DataW.trod_int hi r1
 obtain⟨b2,h2,_,_⟩:=DataW.trod_int hi r2
 obtain⟨b3,h3,_,_⟩:=DataW.trod_int hi r3
 obtain⟨b4,h4,_,_⟩:=DataW.trod_int hi r4
 cases h0;cases h1;cases h2;cases h3;cases h4
 match cs,hl with
 | [_,_,_,_,_],_ =>
  simp only[List.getElem?_cons_zero,List.getElem?_cons_succ] at e0 e1 e2 e3 e4
  cases e0;cases e1;cases e2;cases e3;cases e4
  exact⟨⟨b0,b1,b2,b3,b4⟩,rfl⟩
theorem zb3v {t ti:TypeId} (hk:zcg P t [ti,ti,ti]=true) (hi:P.underlying ti=some (.int .i64)) (n:Nat) (cs:List Value) (x:DataW H × List MemPlace) (h:DataW.trod enc P W 0 (fun _=>true) true n t cs=some x) :
  ∃ a:Win,cs.map (znb W.heap.size)=Flat.enc a:=by
 obtain⟨hl,m,ds,hdl,hx,hr⟩:=zpz hk h
 obtain⟨c0,d0,e0,f0,r0⟩:=hr 0 ti rfl
 obtain⟨c1,d1,e1,f1,r1⟩:=hr 1 ti rfl
 obtain⟨c2,d2,e2,f2,r2⟩:=hr 2 ti rfl
 obtain⟨b0,h0,_,_⟩:=DataW.trod_int hi r0
 obtain⟨b1,h1,_,_⟩:=DataW.trod_int hi r1
 obtain⟨b2,h2,_,_⟩:=DataW.trod_int hi r2
 cases h0;cases h1;cases h2
 match cs,hl with
 | [_,_,_],_ =>
  simp only[List.getElem?_cons_zero,List.getElem?_cons_succ] at e0 e1 e2
  cases e0;cases e1;cases e2
  exact⟨⟨b0,b1,b2⟩,rfl⟩
theorem zbuu {t ti:TypeId} (hk:zcg P t [ti,ti]=true) (hi:P.underlying ti=some (.int .i64)) (n:Nat) (cs:List Value) (x:DataW H × List MemPlace) (h:DataW.trod enc P W 0 (fun _=>true) true n t cs=some x) :
  ∃ a:Bd,cs.map (znb W.heap.size)=Flat.enc a:=by
 obtain⟨hl,m,ds,hdl,hx,hr⟩:=zpz hk h
 obtain⟨c0,d0,e0,f0,r0⟩:=hr 0 ti rfl
 obtain⟨c1,d1,e1,f1,r1⟩:=hr 1 ti rfl
 obtain⟨b0,h0,_,_⟩:=DataW.trod_int hi r0
 obtain⟨b1,h1,_,_⟩:=DataW.trod_int hi r1
 cases h0;cases h1
 match cs,hl with
 | [_,_],_ =>
  simp only[List.getElem?_cons_zero,List.getElem?_cons_succ] at e0 e1
  cases e0;cases e1
  exact⟨⟨b0,b1⟩,rfl⟩
theorem zb6d {t ti:TypeId} (hk:zcg P t [ti,ti]=true) (hi:P.underlying ti=some (.int .i64)) (n:Nat) (cs:List Value) (x:DataW H × List MemPlace) (h:DataW.trod enc P W 0 (fun _=>true) true n t cs=some x) :
  ∃ a:Rl,cs.map (znb W.heap.size)=Flat.enc a:=by
 obtain⟨a,ha⟩:=zbuu hk hi n cs x h
 exact⟨⟨a.kind,a.n⟩,ha⟩
theorem z2r {α:Type} [Flat α] [Inhabited α] {t e:TypeId} (ht:P.underlying t=some (.slice e)) (hce:P.cellsOf e=Flat.size α) (hN:0 < W.heap.size)
  (hop:∀ n cs x,DataW.trod enc P W 0 (fun _=>true) true n e cs=some x→∃ a:α,cs.map (znb W.heap.size)=Flat.enc a)
  {n:Nat} {cs:List Value} {x:DataW H × List MemPlace} (h:DataW.trod enc P W 0 (fun _=>true) true n t cs=some x):∃ a:In α,cs.map (znb W.heap.size)=[a.v]∧Sl (zqr W) a.v a.xs∧a.xs.length≤Rows.uptoBulk x.1:=by
 obtain⟨a,q1,q2,_,q3⟩:=zbnt (α:=α) (datR:=fun _ _=>True) (good:=fun _=>True) ht hce hN (fun n cs x hx=>by
  obtain⟨a,qa⟩:=hop n cs x hx
  exact⟨a,qa,trivial,trivial⟩) _ _ _ h
 exact⟨a,q1,q2,zbvx (R:=fun _ _=>True) q3⟩
def zb02 (W:World) (u:Un):Prop:=Sl (zqr W) u.ins.v u.ins.xs∧Sl (zqr W) u.outs.v u.outs.xs
theorem zb6e {t tl te ti:TypeId} (hk:zcg P t [tl,tl]=true) (hl':P.underlying tl=some (.slice te)) (hce:P.cellsOf te=2) (hke:zcg P te [ti,ti]=true) (hi:P.underlying ti=some (.int .i64)) (hN:0 < W.heap.size)
  (n:Nat) (cs:List Value) (x:DataW H × List MemPlace) (h:DataW.trod enc P W 0 (fun _=>true) true n t cs=some x) :
  ∃ a:Un,cs.map (znb W.heap.size)=Flat.enc a∧zb02 W a:=by
 obtain⟨hl,m,ds,hdl,hx,hr⟩:=zpz hk h
 obtain⟨c0,d0,e0,f0,r0⟩:=hr 0 tl rfl
 obtain⟨c1,d1,e1,f1,r1⟩:=hr 1 tl rfl
 obtain⟨a,p1,p2,_⟩:=z2r (α:=Bd) hl' hce hN (fun n cs x hx=>zbuu hke hi n cs x hx) r0
 obtain⟨b,q1,q2,_⟩:=z2r (α:=Bd) hl' hce hN (fun n cs x hx=>zbuu hke hi n cs x hx) r1
 match cs,hl with
 | [_,_],_ =>
  simp only[List.getElem?_cons_zero,List.getElem?_cons_succ] at e0 e1
  cases e0;cases e1
  simp only[List.map_cons,List.map_nil,List.cons.injEq,and_true] at p1 q1
  refine⟨⟨a,b⟩,?_,p2,q2⟩
  rw[zbos]
  simp only[List.map_cons,List.map_nil,p1,q1]
def zbuv (d:DataW H) (u:Us):Prop:=u.rs.xs.length≤Rows.uptoBulk d
def zbv1 (W:World) (u:Us):Prop:=Sl (zqr W) u.rs.v u.rs.xs
theorem zb6f {t ts tr te ti:TypeId} (hk:zcg P t [ts,ts,tr]=true) (hs:P.underlying ts=some .string) (hr':P.underlying tr=some (.slice te)) (hce:P.cellsOf te=2) (hke:zcg P te [ti,ti]=true) (hi:P.underlying ti=some (.int .i64)) (hN:0 < W.heap.size)
  (n:Nat) (cs:List Value) (x:DataW H × List MemPlace) (h:DataW.trod enc P W 0 (fun _=>true) true n t cs=some x) :
  ∃ a:Us,cs.map (znb W.heap.size)=Flat.enc a∧zbuv x.1 a∧zbv1 W a:=by
 obtain⟨hl,m,ds,hdl,hx,hr⟩:=zpz hk h
 obtain⟨c0,d0,e0,f0,r0⟩:=hr 0 ts rfl
 obtain⟨c1,d1,e1,f1,r1⟩:=hr 1 ts rfl
 obtain⟨c2,d2,e2,f2,r2⟩:=hr 2 tr rfl
 obtain⟨a,ha,hda,_⟩:=DataW.trod_string hs r0
 obtain⟨b,hb',hdb,_⟩:=DataW.trod_string hs r1
 obtain⟨c,q1,q2,q3⟩:=z2r (α:=Rl) hr' hce hN (fun n cs x hx=>zb6d hke hi n cs x hx) r2
 cases ha;cases hb'
 match cs,ds,hl,hdl with
 | [_,_,_],[y0,y1,y2],_,_ =>
  simp only[List.getElem?_cons_zero,List.getElem?_cons_succ] at e0 e1 e2 f0 f1 f2
  cases e0;cases e1;cases e2;cases f0;cases f1;cases f2
  refine⟨⟨a,b,c⟩,?_,?_,q2⟩
  ·simp only[List.map_cons,List.map_nil,List.cons.injEq,and_true] at q1
   rw[z7d]
   simp only[List.map_cons,List.map_nil,q1]
   rfl
  ·show c.xs.length≤_
   rw[hx]
   simp only[List.map_cons,List.map_nil,Rows.uptoBulk,Rows.uptoBulkAll]
   omega
structure SeT (P:Program) (tz tsy tp tg tq tpl tw tu tus ti ept egr epr ewn eun eus ebn tbs erl trl tb ts:TypeId):Prop where
 z:zsr P tz [(0,7,tsy),(7,1,tus),(8,1,ti)]=true
 zc:P.cellsOf tz=9
 zt:P.cellTypes P.depth tz=some [tp,tg,tq,ti,tw,tu,ti,tus,ti]
 sy:zsr P tsy [(0,1,tp),(1,1,tg),(2,1,tq),(3,2,tpl),(5,1,tu),(6,1,ti)]=true
 pl:zcg P tpl [ti,tw]=true
 i:P.underlying ti=some (.int .i64)
 b:P.underlying tb=some .bool
 s:P.underlying ts=some .string
 p:P.underlying tp=some (.slice ept)
 g:P.underlying tg=some (.slice egr)
 q:P.underlying tq=some (.slice epr)
 w:P.underlying tw=some (.slice ewn)
 u:P.underlying tu=some (.slice eun)
 us:P.underlying tus=some (.slice eus)
 bs:P.underlying tbs=some (.slice ebn)
 rl:P.underlying trl=some (.slice erl)
 pc:P.cellsOf ept=2
 gc:P.cellsOf egr=3
 qc:P.cellsOf epr=5
 wc:P.cellsOf ewn=3
 uc:P.cellsOf eun=2
 usc:P.cellsOf eus=3
 bc:P.cellsOf ebn=2
 rc:P.cellsOf erl=2
 pe:zcg P ept [ti,tb]=true
 ge:zcg P egr [ti,ti,tb]=true
 qe:zcg P epr [ti,ti,ti,ti,ti]=true
 we:zcg P ewn [ti,ti,ti]=true
 ue:zcg P eun [tbs,tbs]=true
 use:zcg P eus [ts,ts,trl]=true
 be:zcg P ebn [ti,ti]=true
 re:zcg P erl [ti,ti]=true
theorem open_setup {tz tsy tp tg tq tpl tw tu tus ti ept egr epr ewn eun eus ebn tbs erl trl tb ts:TypeId} (T:SeT P tz tsy tp tg tq tpl tw tu tus ti ept egr epr ewn eun eus ebn tbs erl trl tb ts) (hN:0 < W.heap.size)
  {base:Nat} {v:Value} {d:DataW H} {ps:List MemPlace} (hval:Value.okWide P W .any base tz v) (hb:Rows.uptoBulk d≤1048576) (h:DataW.Trod enc P W 0 (fun _=>true) true tz v d ps) :
  ∃ (x:SyV) (w:V) (l:List Us) (s:Se3),znb W.heap.size v = .agg (x.cs s.sy ++ [w,i64 s.idle]).toArray∧SysAt (zqr W) x s.sy∧Users (zqr W) w l∧l.map Us.p=s.us:=by
 obtain⟨cs,rfl,hcl,hok⟩:=zb2n (ts:=[tp,tg,tq,ti,tw,tu,ti,tus,ti]) T.z T.zc T.zt hval
 obtain⟨fuel,hf⟩:=h
 have hcells:(Value.agg cs.toArray).cells.toList=cs:=by simp[Value.cells]
 rw[hcells] at hf
 obtain⟨_,m,ds,hdl,hx,hrd⟩:=zbmr T.z hf
 dsimp only at hx
 match cs,hcl with
 | [k0,k1,k2,k3,k4,k5,k6,k7,k8],_ =>
 obtain⟨d0,f0,r0⟩:=hrd 0 0 7 tsy rfl
 obtain⟨d1,f1,r1⟩:=hrd 1 7 1 tus rfl
 obtain⟨d2,f2,r2⟩:=hrd 2 8 1 ti rfl
 obtain⟨_,m2,dz,hzl,hzx,hzr⟩:=zbmr T.sy r0
 obtain⟨b0,g0,t0⟩:=hzr 0 0 1 tp rfl
 obtain⟨b1,g1,t1⟩:=hzr 1 1 1 tg rfl
 obtain⟨b2,g2,t2⟩:=hzr 2 2 1 tq rfl
 obtain⟨b3,g3,t3⟩:=hzr 3 3 2 tpl rfl
 obtain⟨b4,g4,t4⟩:=hzr 4 5 1 tu rfl
 obtain⟨b5,g5,t5⟩:=hzr 5 6 1 ti rfl
 obtain⟨hpl,m3,dp,hpll,hpx,hpr⟩:=zpz T.pl t3
 obtain⟨c0,p0,e0,q0,u0⟩:=hpr 0 ti rfl
 obtain⟨c1,p1,e1,q1,u1⟩:=hpr 1 tw rfl
 have e0':k3=c0:=by simpa using e0
 have e1':k4=c1:=by simpa using e1
 subst e0';subst e1'
 have t0':DataW.trod enc P W 0 (fun _=>true) true m2 tp [k0]=some b0:=t0
 have t1':DataW.trod enc P W 0 (fun _=>true) true m2 tg [k1]=some b1:=t1
 have t2':DataW.trod enc P W 0 (fun _=>true) true m2 tq [k2]=some b2:=t2
 have t4':DataW.trod enc P W 0 (fun _=>true) true m2 tu [k5]=some b4:=t4
 have t5':DataW.trod enc P W 0 (fun _=>true) true m2 ti [k6]=some b5:=t5
 have r1':DataW.trod enc P W 0 (fun _=>true) true m tus [k7]=some d1:=r1
 have r2':DataW.trod enc P W 0 (fun _=>true) true m ti [k8]=some d2:=r2
 obtain⟨a0,i0,s0,l0⟩:=z2r (α:=Pt) T.p T.pc hN (fun n cs x hx=>zb6b T.pe T.i T.b n cs x hx) t0'
 obtain⟨a1,i1,s1,l1⟩:=z2r (α:=Gr) T.g T.gc hN (fun n cs x hx=>zb6c T.ge T.i T.b n cs x hx) t1'
 obtain⟨a2,i2,s2,l2⟩:=z2r (α:=Port) T.q T.qc hN (fun n cs x hx=>zb01 T.qe T.i n cs x hx) t2'
 obtain⟨a4,i4,s4,l4⟩:=z2r (α:=Win) T.w T.wc hN (fun n cs x hx=>zb3v T.we T.i n cs x hx) u1
 obtain⟨a5,i5,s5,o5,l5⟩:=zbnt (α:=Un) (datR:=fun _ _=>True) (good:=zb02 W) T.u T.uc hN (fun n cs x hx=>by
  obtain⟨a,qa,qb⟩:=zb6e T.ue T.bs T.bc T.be T.i hN n cs x hx
  exact⟨a,qa,trivial,qb⟩) _ _ _ t4'
 have l5':=zbvx (R:=fun _ _=>True) l5
 obtain⟨a7,i7,s7,o7,l7⟩:=zbnt (α:=Us) (datR:=zbuv) (good:=zbv1 W) T.us T.usc hN (fun n cs x hx=>zb6f T.use T.s T.rl T.rc T.re T.i hN n cs x hx) _ _ _ r1'
 obtain⟨n3,h3,_,_⟩:=DataW.trod_int T.i u0
 obtain⟨n6,h6,_,_⟩:=DataW.trod_int T.i t5'
 obtain⟨n8,h8,_,_⟩:=DataW.trod_int T.i r2'
 cases h3;cases h6;cases h8
 match ds,hdl with
 | [_,_,_],_ =>
 match dz,hzl with
 | [_,_,_,_,_,_],_ =>
 match dp,hpll with
 | [_,_],_ =>
  simp only[List.getElem?_cons_zero,List.getElem?_cons_succ,Option.some.injEq] at f0 f1 f2 g0 g1 g2 g3 g4 g5 q0 q1
  simp only[List.map_cons,List.map_nil,List.cons.injEq,and_true] at i0 i1 i2 i4 i5 i7
  have hbz:Rows.uptoBulk b0.1≤1048576∧Rows.uptoBulk b1.1≤1048576∧Rows.uptoBulk b2.1≤1048576∧Rows.uptoBulk p1.1≤1048576∧Rows.uptoBulk b4.1≤1048576∧Rows.uptoBulk d1.1≤1048576:=by
   rw[hx] at hb
   simp only[List.map_cons,List.map_nil,Rows.uptoBulk,Rows.uptoBulkAll,f0,f1,f2,hzx,g0,g1,g2,g3,g4,g5,hpx,q0,q1] at hb
   omega
  obtain⟨z0,z1,z2,z3,z4,z5⟩:=hbz
  obtain⟨_,⟨sa0,sl0,sc0,rfl⟩⟩:=zbfa T.p (hok 0 tp _ rfl rfl)
  obtain⟨_,⟨sa1,sl1,sc1,rfl⟩⟩:=zbfa T.g (hok 1 tg _ rfl rfl)
  obtain⟨_,⟨sa2,sl2,sc2,rfl⟩⟩:=zbfa T.q (hok 2 tq _ rfl rfl)
  obtain⟨_,⟨sa4,sl4,sc4,rfl⟩⟩:=zbfa T.w (hok 4 tw _ rfl rfl)
  obtain⟨_,⟨sa5,sl5,sc5,rfl⟩⟩:=zbfa T.u (hok 5 tu _ rfl rfl)
  obtain⟨_,⟨sa7,sl7,sc7,rfl⟩⟩:=zbfa T.us (hok 7 tus _ rfl rfl)
  have i0':zye W.heap.size (.slice sa0 sl0 sc0)=a0.v:=i0
  have i1':zye W.heap.size (.slice sa1 sl1 sc1)=a1.v:=i1
  have i2':zye W.heap.size (.slice sa2 sl2 sc2)=a2.v:=i2
  have i4':zye W.heap.size (.slice sa4 sl4 sc4)=a4.v:=i4
  have i5':zye W.heap.size (.slice sa5 sl5 sc5)=a5.v:=i5
  have i7':zye W.heap.size (.slice sa7 sl7 sc7)=a7.v:=i7
  refine⟨⟨a0.v,a1.v,a2.v,a4.v,a5.v⟩,a7.v,a7.xs,⟨⟨a0.xs,a1.xs,a2.xs,n3,a4.xs,a5.xs.map Un.p,n6⟩,a7.xs.map Us.p,n8⟩,?_,⟨s0,s1,s2,s4,⟨a5.xs,⟨s5,fun u hu=>o5 u hu⟩,rfl⟩,?_⟩,⟨s7,fun u hu=>⟨o7 u hu,?_⟩⟩,rfl⟩
  ·simp only[znb,List.map_toArray,List.map_cons,List.map_nil]
   rw[i0',i1',i2',i4',i5',i7']
   rfl
  ·simp only[List.length_map]
   omega
  ·rcases l7 with⟨_,q⟩ | ⟨D,rest,q,hd⟩
   ·rw[q] at hu;cases hu
   ·obtain⟨i,hi,rfl⟩:=List.getElem_of_mem hu
    have q':=hd i a7.xs[i] (List.getElem?_eq_getElem hi)
    have hm:D i∈(List.range a7.xs.length).map D:=List.mem_map.2 ⟨i,List.mem_range.2 hi,rfl⟩
    have:=bulk_mem hm
    rw[q] at z5
    simp only[Rows.uptoBulk] at z5
    unfold zbuv at q'
    omega
end
theorem zbx5 {N:Nat} {w₀:World} {ρ:Ren} {H:Heap} {w:World} (hG:Tryz.prog.globals.size≤N) (h:Rel N w₀ ρ H w) (hp:zn4 H):Lib.TabIs Tryz.prog w "internal/strconv.uint64pow10" .u64 Lib.pow10Tab:=by
 have hgs:Tryz.prog.globals.size=10:=by kernel_rfl
 obtain⟨s0,h0⟩:=h.base 5 (by omega)
 obtain⟨C,e,f,hC,hr⟩:=h.whole hp h0
 unfold Lib.TabIs World.var?
 rw[show Tryz.prog.globalNamed "internal/strconv.uint64pow10" = some 5 by kernel_rfl]
 simp only[Option.bind_some,hC]
 have key:∀ (zs:List Int) (l:List V),LRel ρ (zs.map fun z=>Value.int .u64 z) l→l=zs.map fun z=>Value.int .u64 z:=by
  intro zs
  induction zs with
  | nil=>intro l hl;cases hl;rfl
  | cons z zs ih =>
   intro l hl
   cases hl with
   | cons h1 h2=>cases h1;rw[ih _ h2];rfl
 have e1:=key _ _ hr
 rw[← e1]
theorem zbkc (w:World) (k:Nat) (os:Array Obj):Below w.heap.size w (Go.Sort.grow (w.drewN k) os) :=
 ⟨rfl,rfl,rfl,by show w.heap.size≤(w.heap ++ os).size;rw[Array.size_append];omega,fun c hc=>by
  show (w.heap ++ os)[c]? = _
  rw[Array.getElem?_append_left hc]⟩
theorem known_itoa:zq Tryz.prog zhc zkv:=by
 refine⟨by kernel_rfl,?_⟩
 intro N w₀ ρ H w args args' r H' hG hR ha hl
 unfold zkv at hl
 split at hl
 ·rename_i n
  split at hl
  ·rename_i hc
   cases hl
   cases ha with
   | cons h1 h2 =>
    cases h2;cases h1
    refine (Tryz.strconv_Itoa n hc.1 hc.2.1 w (zbx5 hG hR hc.2.2)).mono fun e w' ⟨he,k,os,hw⟩=>?_
    subst hw
    exact⟨_,he,ρ,.string _,zbfs hR (zbkc w k os),zbft (zbkc w k os)⟩
  ·cases hl
 ·cases hl
theorem pow10 {W:World} (h:laidMetH Tryz.prog Rows.confLinesRow.laid W):zn4 (zqr W):=by
 have h1:=laidMetH.filter (fun x=>x.1 == "internal/strconv.uint64pow10") h
 have t1:Lib.TabIs Tryz.prog W "internal/strconv.uint64pow10" .u64 [1,10,100,1000,10000,100000,1000000,10000000,100000000,1000000000,10000000000,100000000000,1000000000000,10000000000000,100000000000000,1000000000000000,10000000000000000,100000000000000000,1000000000000000000,10000000000000000000] :=
  Lib.tabIs_of_head (rest:=[]) (g:=5) (n:=20) (t:=308) (e:=41) (by kernel_rfl) (by kernel_rfl) (by kernel_rfl) (by kernel_rfl) (by kernel_rfl) (by kernel_rfl) h1
 exact (zbxf t1 (by kernel_rfl)).2
theorem tabsL {W:World} (h:laidMetH Tryz.prog Rows.confLinesRow.laid W) (hs:W.ShapedOpen Tryz.prog):Tabs (zqr W):=by
 have h1:=laidMetH.filter (fun x=>x.1 == "capstan/conf.types") h
 have h2:laidMet Tryz.prog [("capstan/conf.types", .agg (zb5y.map fun z => .lit (.string z)))] W:=h1
 have h3:=laidMetH.filter (fun x=>x.1 == "capstan/conf.levels") h
 have h4:laidMet Tryz.prog [("capstan/conf.levels", .agg (zb3e.map fun z => .lit (.string z)))] W:=h3
 exact⟨⟨false,zbmz (g:=gid_conf_types) (t:=131) (e:=9) (n:=4) h2 (by kernel_rfl) (by kernel_rfl) (by kernel_rfl) (by kernel_rfl) (by kernel_rfl) (by kernel_rfl)⟩,
  ⟨false,zbmz (g:=gid_conf_levels) (t:=78) (e:=9) (n:=5) h4 (by kernel_rfl) (by kernel_rfl) (by kernel_rfl) (by kernel_rfl) (by kernel_rfl) (by kernel_rfl)⟩,maxL hs⟩
theorem seT:SeT Tryz.prog 33 30 22 23 24 27 25 28 31 3 108 102 122 67 49 52 133 47 65 50 4 9 :=
 ⟨by kernel_rfl,by kernel_rfl,by kernel_rfl,by kernel_rfl,by kernel_rfl,by kernel_rfl,by kernel_rfl,by kernel_rfl,by kernel_rfl,by kernel_rfl,by kernel_rfl,by kernel_rfl,by kernel_rfl,by kernel_rfl,by kernel_rfl,by kernel_rfl,by kernel_rfl,by kernel_rfl,by kernel_rfl,by kernel_rfl,by kernel_rfl,by kernel_rfl,by kernel_rfl,by kernel_rfl,by kernel_rfl,by kernel_rfl,by kernel_rfl,by kernel_rfl,by kernel_rfl,by kernel_rfl,by kernel_rfl,by kernel_rfl⟩
end Go.AM.Cap
