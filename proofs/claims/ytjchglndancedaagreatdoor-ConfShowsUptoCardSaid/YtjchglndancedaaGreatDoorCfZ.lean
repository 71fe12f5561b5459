import Derived.Test.YtjchglndancedaaGreatDoorCfU
import Derived.Test.YtjchglndancedaaGreatDoorAmIn
set_option linter.all false
/- conf: Parse -/
set_option maxHeartbeats 16000000
namespace Go.AM.Cap
open Go.AM Go.Proofs
variable {H0 H:Heap} {R:Nat} {v:RV} {st:RSt} {L:List Thing}
def zbea (H:Heap) (cs:List V) (s:Se3):Prop:=∃ (x:SyV) (w:V) (l:List Us),cs=x.cs s.sy ++ [w,i64 s.idle]∧SysAt H x s.sy∧Users H w l∧l.map Us.p=s.us
theorem zbea.keep0 {cs:List V} {s:Se3} {H':Heap} (h:zbea H cs s) (hk:Keeps [] H H'):zbea H' cs s:=by
 obtain⟨x,w,l,h1,h2,h3,h4⟩:=h
 exact⟨x,w,l,h1,h2.keep0 hk,h3.keep0 hk,h4⟩
theorem zb3b {u:Un} {l:List Un} (h:u∈l):own u.ins.v u.ins.xs∈unT l∧own u.outs.v u.outs.xs∈unT l:=by
 unfold unT
 exact⟨List.mem_flatMap.2 ⟨u,h,by simp⟩,List.mem_flatMap.2 ⟨u,h,by simp⟩⟩
theorem zb3c {u:Us} {l:List Us} (h:u∈l):own u.rs.v u.rs.xs∈usT l:=List.mem_map.2 ⟨u,h,rfl⟩
def RV.x (v:RV):SyV:=⟨v.pv,v.gv,v.qv,v.wv,v.uv⟩
theorem zbsh {LL:List Thing} {n:Nat} (h:Hp H0 H LL) (hm:∀ t∈v.things R st L,t∈LL) (hu:v.uns.map Un.p=st.sy.uns) (hz:v.uz.map Us.p=st.us) (hs:Sm st n) (hn:n≤1000000):SysAt H v.x st.sy∧Users H v.sv v.uz:=by
 have own_of:∀ {α:Type} [Flat α] {w:V} {xs:List α},own w xs∈v.things R st L→zh7 H w xs:=fun hmem=>h.all _ (hm _ hmem)
 refine⟨⟨(own_of (by simp[RV.things,RV.x])).sl,(own_of (by simp[RV.things,RV.x])).sl,(own_of (by simp[RV.things,RV.x])).sl,(own_of (by simp[RV.things,RV.x])).sl,⟨v.uns,⟨(own_of (by simp[RV.things,RV.x])).sl,fun u hmu=>?_⟩,hu⟩,?_⟩,(own_of (by simp[RV.things,RV.x])).sl,fun u hmu=>?_⟩
 ·obtain⟨m1,m2⟩:=zb3b hmu
  exact⟨(own_of (by simp[RV.things,m1])).sl,(own_of (by simp[RV.things,m2])).sl⟩
 ·have:=hs.pts;have:=hs.grs;have:=hs.prs;have:=hs.wins;have:=hs.uns
  omega
 ·have m1:=zb3c hmu
  refine⟨(own_of (by simp[RV.things,m1])).sl,?_⟩
  have:u.p∈st.us:=by rw[← hz];exact List.mem_map_of_mem hmu
  have:=hs.rol _ this
  simp only[Us.p] at this
  omega
theorem zb5x (H:Heap):zbea H z9 se0:=⟨⟨.slice none 0 0,.slice none 0 0,.slice none 0 0,.slice none 0 0,.slice none 0 0⟩,.slice none 0 0,[],rfl,⟨Sl.nil _,Sl.nil _,Sl.nil _,Sl.nil _,⟨[],⟨Sl.nil _,by simp⟩,rfl⟩,by simp[se0]⟩,⟨Sl.nil _,by simp⟩,rfl⟩
theorem z7j (n:Nat) (h:1≤n):((n:Int) - 1)=((n - 1:Nat):Int):=by omega
theorem zbl0 (l:List ByteArray):l.dropLast=l.take (l.length - 1):=List.dropLast_eq_take
theorem zbsi (l:List ByteArray) (h:l≠[]):l.getLastD zol=wAt l (l.length - 1):=by
 cases l with
 | nil=>exact absurd rfl h
 | cons a l =>
  rw[wAt,List.getLastD_eq_getLast?,List.getLast?_eq_getElem?,List.getD_eq_getElem?_getD]
theorem zbsj {G:List V→M V} (hT:Tabs H) (t:ByteArray) (Q:V→Heap→Prop)
  (hQ:∀ cs H',zbea H' cs (z2k t).1→Keeps [] H H'→Q (.tuple #[.agg cs.toArray,i64 (z2k t).2.1,i64 (z2k t).2.2]) H'):wp (zrf zpr G zc3 zx4 [.string t]) Q H:=by
 show wp (z16 zpr G zc3 zx4 (.string t)) Q H
 have s1:Hp H (H.push (some (.cells true z9))) [cel H.next z9]:=(Hp.start H).newc _
 have ez:build [(Value.slice none 0 0:V),Value.slice none 0 0,Value.slice none 0 0,Value.int .i64 0,Value.slice none 0 0,Value.slice none 0 0,Value.int .i64 0,Value.slice none 0 0,Value.int .i64 0] []=some (.agg z9.toArray):=rfl
 have h9:z9.length=9:=rfl
 have o9:z9.all Value.isOne=true:=by decide
 unfold z16
 rw[z7,z7]
 refine (zbck (by decide)).mpr ?_
 change wp _ _ (H.push (some (.cells true z9)))
 generalize hP:H.next=P at *
 generalize H.push (some (.cells true z9))=H1 at *
 have g1:=s1.get (i:=0) rfl
 have n1:=Heap.get_lt g1
 have fin:∀ {H2:Heap} {n e:Int},H2.get P=some (.cells true z9)→Keeps [] H H2→(z2k t)=(se0,n,e)→Q (.tuple #[.agg z9.toArray,i64 n,i64 e]) H2:=fun g2 k2 hp=>by
  have q:=hQ z9 _ (by rw[hp];exact zb5x _) k2
  rw[hp] at q;exact q
 by_cases c1:t.size > 65536
 ·have e1:decide ((t.size:Int) > 65536)=true:=decide_eq_true (by omega)
  have w9:=fun Q=>zft (n:=9) (Q:=Q) g1 h9 h9 o9
  (try simp (maxSteps:=999999) (disch:=try exact ZD) only[ZA,zn,zk,zi,zj,zg,ze,e1,ez,w9])
  have gz:=Heap.get_set_eq (x:=some (.cells true z9)) n1
  have d9:=fun Q=>zbb (n:=9) (Q:=Q) gz h9
  (try simp (maxSteps:=999999) (disch:=try exact ZD) only[ZA,zo,zn,zm,zk,zi,zj,zg,ze,d9])
  have s2:=s1.set (i:=0) rfl z9
  exact fin gz s2.keeps (by rw[z2k,if_pos c1])
 have e1:decide ((t.size:Int) > 65536)=false:=decide_eq_false (by omega)
 have hpar:z2k t=match zyv z03 0 (zc1 10 t).dropLast with
  | .error (n,e)=>(se0,(n:Int),e)
  | .ok st=>if (zc1 10 t).getLastD zol≠zol then (se0,((zc1 10 t).length:Int),3) else
   if zvo st.sy st.us st.idle≠0 then (se0,0,zvo st.sy st.us st.idle) else (⟨st.sy,st.us,st.idle⟩,0,0):=by
  rw[z2k,if_neg c1]
  rfl
 have hwz:∀ w∈zc1 10 t,w.size≤100000:=fun w hw=>by have:=zbmy hw;omega
 have hwl:=zbj4 10 t
 have hwp:=zbj5 10 t
 have hwn:=zbmu 10 t
 generalize hws:zc1 10 t=ws at *
 (try simp (maxSteps:=999999) (disch:=try exact ZD) only[ZA,zn,zk,zi,zj,zg,ze,e1,z9w])
 refine zbr9 (hT.ml.keep0 s1.keeps) s1 t ⟨#[10]⟩ 10 (by decide) (by omega) _ fun w H2 k2 s2=>?_
 rw[hws] at s2
 have o2:=s2.own (i:=0) rfl
 have hlen:=o2.len
 have e2:zu .sub (i64 (ws.length:Int)) (Value.int .i64 1)=some (i64 ((ws.length - 1:Nat):Int)):=by
  show some (Value.int .i64 (IntKind.wrap .i64 ((ws.length:Int) - 1)))=_
  rw[z7j _ hwp,i64_in (by omega) (by omega)]
 obtain⟨u,hu,hsu⟩:=zbvi (α:=ByteArray) (n:=1) rfl o2.sl (j:=ws.length - 1) (by omega)
 rw[← zbl0] at hsu
 have hu':zh6 1 w none (some (i64 ((ws.length:Int) - 1)))=some u:=by rw[z7j _ hwp];exact hu
 have hdl:ws.dropLast.length=ws.length - 1:=List.length_dropLast
 (try simp (maxSteps:=999999) (disch:=try exact ZD) only[ZA,zn,zk,zi,zj,zg,ze,hlen,hu'])
 have g2:=s2.get (i:=1) rfl
 refine zb3a (hT.keep0 s2.keeps) hsu (by omega) (fun s hs=>hwz s ((List.dropLast_sublist ws).subset hs)) _ (fun st hst v R H3 L3 r3 sm3=>?_) fun n e he hne H3 k3=>?_
 case refine_2 =>
  rw[he] at hpar
  have s3:=s2.keep0 k3
  have g3:=s3.get (i:=1) rfl
  have n3:=Heap.get_lt g3
  have w9:=fun Q=>zft (n:=9) (Q:=Q) g3 h9 h9 o9
  have e3:decide (e≠0)=true:=decide_eq_true hne
  (try simp (maxSteps:=999999) (disch:=try exact ZD) only[ZA,zn,zk,zi,zj,zg,ze,w9,e3,ez])
  have gz:=Heap.get_set_eq (x:=some (.cells true z9)) n3
  have w9':=fun Q=>zft (n:=9) (Q:=Q) gz h9 h9 o9
  (try simp (maxSteps:=999999) (disch:=try exact ZD) only[ZA,zn,zk,zi,zj,zg,ze,w9'])
  have d9:=fun Q=>zbb (n:=9) (Q:=Q) gz h9
  (try simp (maxSteps:=999999) (disch:=try exact ZD) only[ZA,zo,zn,zm,zk,zi,zj,zg,ze,d9])
  exact fin gz (s3.set (i:=1) rfl z9).keeps hpar
 rw[hst] at hpar
 simp only at hpar
 have s3:Hp H H3 (own w ws :: cel P z9 :: v.things R st L3):=(Hp.join s2 r3.hp).perm List.perm_append_comm
 have g3:=s3.get (i:=1) rfl
 have n3:=Heap.get_lt g3
 have hcl:((v.cells st).take 9).length=9:=rfl
 have hco:((v.cells st).take 9).all Value.isOne=true:=by
  have o1:=(r3.hp.own (i:=1) rfl).isOne
  have o2:=(r3.hp.own (i:=2) rfl).isOne
  have o3:=(r3.hp.own (i:=3) rfl).isOne
  have o4:=(r3.hp.own (i:=4) rfl).isOne
  have o5:=(r3.hp.own (i:=5) rfl).isOne
  have o6:=(r3.hp.own (i:=6) rfl).isOne
  simp[RV.cells,o1,o2,o3,o4,o5,o6]
 have w9:=fun Q=>zft (n:=9) (Q:=Q) g3 h9 hcl hco
 have s4:=s3.set (i:=1) rfl ((v.cells st).take 9)
 simp only[List.set_cons_succ,List.set_cons_zero] at s4
 have hwd:=z77 (s4.own (i:=0) rfl).sl (i:=ws.length - 1) (by omega)
 rw[← z7j _ hwp] at hwd
 obtain⟨a4,b4⟩:=hwd
 (try simp (maxSteps:=999999) (disch:=try exact ZD) only[ZA,zn,zk,zi,zj,zg,ze,w9])
 generalize H3.set P (some (.cells true ((v.cells st).take 9)))=H4 at *
 have g4:=s4.get (i:=1) rfl
 have n4:=Heap.get_lt g4
 rw[zbsi ws hwn] at hpar
 by_cases c2:wAt ws (ws.length - 1)=zol
 case neg =>
  rw[if_pos c2] at hpar
  have e3:decide (wAt ws (ws.length - 1)≠(⟨#[]⟩:ByteArray))=true:=decide_eq_true c2
  have w9':=fun Q=>zft (n:=9) (Q:=Q) g4 hcl h9 o9
  (try simp (maxSteps:=999999) (disch:=try exact ZD) only[ZA,zn,zk,zi,zj,zg,ze,a4,b4,e3,ez,w9'])
  have gz:=Heap.get_set_eq (x:=some (.cells true z9)) n4
  have d9:=fun Q=>zbb (n:=9) (Q:=Q) gz h9
  (try simp (maxSteps:=999999) (disch:=try exact ZD) only[ZA,zo,zn,zm,zk,zi,zj,zg,ze,d9])
  have s5:=s4.set (i:=1) rfl z9
  have:=fin gz s5.keeps hpar
  rw[show ((ws.length:Int) - 1 + 1)=(ws.length:Int) by omega]
  exact this
 rw[if_neg (fun q=>q c2)] at hpar
 have e3:decide (wAt ws (ws.length - 1)≠(⟨#[]⟩:ByteArray))=false:=decide_eq_false (fun q=>q c2)
 obtain⟨hsys,husr⟩:=zbsh (n:=ws.dropLast.length) s4 (fun t ht=>by simp only[List.mem_cons];exact .inr (.inr ht)) r3.uns r3.us sm3 (by omega)
 have d7:∀ Q,wp (ldn 7 (ptr P 0)) Q H4↔Q (.agg (v.x.cs st.sy).toArray) H4:=fun Q=>by
  rw[zbz,g4,zy2 (by show 0 + 7≤9;omega)]
  rfl
 have c7:((v.cells st).take 9)[7]? = some v.sv:=rfl
 have c8:((v.cells st).take 9)[8]? = some (i64 st.idle):=rfl
 (try simp (maxSteps:=999999) (disch:=try exact ZD) only[ZA,zn,zk,zi,zj,zg,ze,a4,b4,e3,z9v,d7,g4,c7,c8])
 refine zbj0 hsys husr r3.us st.idle _ fun a H5 k5=>?_
 have s5:=s4.keep0 k5
 have g5:=s5.get (i:=1) rfl
 have n5:=Heap.get_lt g5
 by_cases c3:zvo st.sy st.us st.idle=0
 case neg =>
  rw[if_pos c3] at hpar
  have e4:decide (zvo st.sy st.us st.idle≠0)=true:=decide_eq_true c3
  have w9':=fun Q=>zft (n:=9) (Q:=Q) g5 hcl h9 o9
  (try simp (maxSteps:=999999) (disch:=try exact ZD) only[ZA,zn,zk,zi,zj,zg,ze,e4,ez,w9'])
  have gz:=Heap.get_set_eq (x:=some (.cells true z9)) n5
  have d9:=fun Q=>zbb (n:=9) (Q:=Q) gz h9
  (try simp (maxSteps:=999999) (disch:=try exact ZD) only[ZA,zo,zn,zm,zk,zi,zj,zg,ze,d9])
  exact fin gz (s5.set (i:=1) rfl z9).keeps hpar
 rw[if_neg (fun q=>q c3)] at hpar
 have e4:decide (zvo st.sy st.us st.idle≠0)=false:=decide_eq_false (fun q=>q c3)
 have d9:=fun Q=>zbb (n:=9) (Q:=Q) g5 hcl
 have w9':=fun Q=>zft (n:=9) (Q:=Q) g5 hcl hcl hco
 (try simp (maxSteps:=999999) (disch:=try exact ZD) only[ZA,zn,zk,zi,zj,zg,ze,e4,z9u,d9,w9'])
 have gz:=Heap.get_set_eq (x:=some (.cells true ((v.cells st).take 9))) n5
 have d9':=fun Q=>zbb (n:=9) (Q:=Q) gz hcl
 (try simp (maxSteps:=999999) (disch:=try exact ZD) only[ZA,zo,zn,zm,zk,zi,zj,zg,ze,d9'])
 have s6:=s5.set (i:=1) rfl ((v.cells st).take 9)
 simp only[List.set_cons_succ,List.set_cons_zero] at s6
 obtain⟨hsys',husr'⟩:=zbsh (n:=ws.dropLast.length) s6 (fun t ht=>by simp only[List.mem_cons];exact .inr (.inr ht)) r3.uns r3.us sm3 (by omega)
 have q:=hQ ((v.cells st).take 9) _ (by rw[hpar];exact⟨v.x,v.sv,v.uz,rfl,hsys',husr',r3.us⟩) s6.keeps
 rw[hpar] at q
 exact q
end Go.AM.Cap

/- conf: the same setup (printed by gencw.py) -/
set_option maxHeartbeats 16000000
namespace Go.AM.Cap
open Go.AM Go.Proofs
variable {H0 H:Heap}
end Go.AM.Cap

/- conf: the same setup; works -/
set_option maxHeartbeats 16000000
namespace Go.AM.Cap
open Go.AM Go.Proofs
variable {H0 H:Heap}
def txA:ByteArray:=⟨#[109,105,108,108,105,115,32,49,48,10,102,114,97,109,101,32,53,48,10,105,100,108,101,32,57,10,119,105,110,100,111,119,32,48,32,48,32,50,48,10,117,110,105,116,10]⟩
def txB:ByteArray:=⟨#[109,105,108,108,105,115,32,49,48,10,109,105,108,108,105,115,32,49,48,10]⟩
def seW:Se3:=⟨⟨[],[],[],50,[⟨0,0,20⟩],[⟨[],[]⟩],10⟩,[],9⟩
theorem zb7n:z2k txA=(seW,0,0):=by kernel_rfl
theorem zb7o:z2k txB=(se0,2,6):=by kernel_rfl
theorem zbsk {G:List V→M V} (hT:Tabs H) (Q:V→Heap→Prop) (hQ:∀ H',Keeps [] H H'→Q (.bool true) H'):wp (zoy zpr G zc3 zx4 []) Q H:=by
 show wp (zzu zpr G zc3 zx4) Q H
 unfold zzu
 rw[z7,z7]
 refine zbsj hT txA _ fun cs H1 h1 k1=>?_
 rw[zb7n] at h1 ⊢
 obtain⟨x,v,l,rfl,sx,ux,eu⟩:=h1
 have ox:(x.cs seW.sy ++ [v,i64 seW.idle]).all Value.isOne=true:=by rw[List.all_append,sx.one];simp[ux.out.isOne]
 have g1:(H1.push (some (.cells true z9))).get H1.next=some (.cells true z9):=Heap.get_push_self _ _
 have w1:=fun Q=>zft (n:=9) (Q:=Q) g1 rfl rfl ox
 have e1:∀ Q,wp (newc [Value.slice none 0 0,Value.slice none 0 0,Value.slice none 0 0,Value.int .i64 0,Value.slice none 0 0,Value.slice none 0 0,Value.int .i64 0,Value.slice none 0 0,Value.int .i64 0]) Q H1↔Q (ptr H1.next 0) (H1.push (some (.cells true z9))):=fun Q=>zbck (by decide)
 simp only[z7,zbg9,z0c,List.getElem?_cons_zero,List.getElem?_cons_succ,zbcj,e1,w1]
 have k2:Keeps [] H1 ((H1.push (some (.cells true z9))).set H1.next (some (.cells true (x.cs seW.sy ++ [v,i64 seW.idle])))):=zb7 (Keeps.push _ _ _) (.inr (Nat.le_refl _))
 have g2:((H1.push (some (.cells true z9))).set H1.next (some (.cells true (x.cs seW.sy ++ [v,i64 seW.idle])))).get H1.next=some (.cells true (x.cs seW.sy ++ [v,i64 seW.idle])):=Heap.get_set_self (by simp)
 generalize H1.next=p at *
 generalize (H1.push (some (.cells true z9))).set p (some (.cells true (x.cs seW.sy ++ [v,i64 seW.idle])))=H2 at *
 have k02:=k1.trans k2 (fun _ _ h=>h)
 refine zbsj (hT.keep0 k02) txB _ fun ds H3 h3 k3=>?_
 rw[zb7o] at h3 ⊢
 have k03:=k02.trans k3 (fun _ _ h=>h)
 have g3:=k3.get g2 (by simp)
 obtain⟨y,w,m,rfl,sy,uy,em⟩:=h3
 have oy:(y.cs se0.sy ++ [w,i64 se0.idle]).all Value.isOne=true:=by rw[List.all_append,sy.one];simp[uy.out.isOne]
 have sw:=(sx.wins.keep0 k2).keep0 k3
 obtain⟨ul,hul,eul⟩:=sx.uns
 have su:=(hul.out.keep0 k2).keep0 k3
 have lu:=su.len
 have hul1:ul.length=1:=by have:=congrArg List.length eul;rw[List.length_map] at this;exact this
 rw[hul1] at lu
 have g4:(H3.push (some (.cells true z9))).get H3.next=some (.cells true z9):=Heap.get_push_self _ _
 have w4:=fun Q=>zft (n:=9) (Q:=Q) g4 rfl rfl oy
 have e4:∀ Q,wp (newc [Value.slice none 0 0,Value.slice none 0 0,Value.slice none 0 0,Value.int .i64 0,Value.slice none 0 0,Value.slice none 0 0,Value.int .i64 0,Value.slice none 0 0,Value.int .i64 0]) Q H3↔Q (ptr H3.next 0) (H3.push (some (.cells true z9))):=fun Q=>zbck (by decide)
 simp only[z7,zbg9,z0c,List.getElem?_cons_zero,List.getElem?_cons_succ,zbcj,e4,w4]
 have k4:Keeps [] H3 ((H3.push (some (.cells true z9))).set H3.next (some (.cells true (y.cs se0.sy ++ [w,i64 se0.idle])))):=zb7 (Keeps.push _ _ _) (.inr (Nat.le_refl _))
 generalize (H3.push (some (.cells true z9))).set H3.next (some (.cells true (y.cs se0.sy ++ [w,i64 se0.idle])))=H4 at *
 have g5:=k4.get g3 (by simp)
 have sw4:=sw.keep0 k4
 have lw:=sw4.len
 have a1:=sw4.addr' (n:=3) rfl (k := .i64) (i:=0) (by decide) (by decide)
 have d1:=fun Q=>sw4.ldn' (Q:=Q) (n:=3) rfl (i:=0) (by decide) default
 have ex:x.cs seW.sy ++ [v,i64 seW.idle]=[x.pv,x.gv,x.qv,i64 50,x.wv,x.uv,i64 10,v,i64 9]:=rfl
 have lw':zw x.wv=some (i64 1):=lw
 have lu':zw x.uv=some (i64 1):=lu
 have a1':zr 3 x.wv (Value.int .i64 0)=some (ptr (slB x.wv) (slO x.wv + 0 * 3)):=a1
 have ee:zer false (zpt [.i,.i,.i] (.agg (Flat.enc (seW.sy.wins.getD 0 default)).toArray) (.agg #[i64 0,i64 0,i64 20]))=some (.bool true):=rfl
 have eb:build [Value.int .i64 0,Value.int .i64 0,(Value.int .i64 0:V)] [(2,1,Value.int .i64 20)]=some (.agg #[i64 0,i64 0,i64 20]):=rfl
 have t1:decide ((0:Int)=0)=true:=rfl
 have t2:decide ((10:Int)=10)=true:=rfl
 have t3:decide ((50:Int)=50)=true:=rfl
 have t4:decide ((9:Int)=9)=true:=rfl
 have t5:decide ((1:Int)=1)=true:=rfl
 have t6:decide ((2:Int)=2)=true:=rfl
 have t7:decide ((6:Int)=6)=true:=rfl
 (try simp (maxSteps:=999999) (disch:=try exact ZD) only[ZA,zo,zn,zk,zi,zj,zg,ze,g5,ex,lw',lu',a1',d1,eb,ee,t1,t2,t3,t4,t5,t6,t7])
 exact hQ _ (k03.trans k4 (fun _ _ h=>h))
end Go.AM.Cap

/- conf: ConfNotes, the plain law -/
set_option maxHeartbeats 16000000
namespace Go.AM.Cap
open Go.AM Go.Proofs
def noNl (l:ByteArray):Prop:=∀ b∈bv l,b≠10
end Go.AM.Cap

/- conf: ConfNotes, the walk -/
set_option maxHeartbeats 16000000
namespace Go.AM.Cap
open Go.AM Go.Proofs
variable {H0 H:Heap}
end Go.AM.Cap
