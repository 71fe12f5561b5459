import Derived.Test.YtjchglndancedaaGreatDoorCfU
import Derived.Test.YtjchglndancedaaGreatDoorAmIn
set_option linter.all false
/- conf: Parse -/
set_option maxHeartbeats 16000000
namespace Go.AM.Cap
open Go.AM Go.Proofs
variable {H0 H:Heap} {R:Nat} {v:RV} {st:RSt} {L:List Thing}
def zkr (H:Heap) (cs:List V) (s:Se3):Prop:=∃ (x:SyV) (w:V) (l:List Us),cs=x.cs s.sy ++ [w,i64 s.idle]∧SysAt H x s.sy∧Users H w l∧l.map Us.p=s.us
theorem zkr.keep0 {cs:List V} {s:Se3} {H':Heap} (h:zkr H cs s) (hk:Keeps [] H H'):zkr H' cs s:=by
 obtain⟨x,w,l,h1,h2,h3,h4⟩:=h
 exact⟨x,w,l,h1,h2.keep0 hk,h3.keep0 hk,h4⟩
theorem zbvy {u:Un} {l:List Un} (h:u∈l):own u.ins.v u.ins.xs∈unT l∧own u.outs.v u.outs.xs∈unT l:=by
 unfold unT
 exact⟨List.mem_flatMap.2 ⟨u,h,by simp⟩,List.mem_flatMap.2 ⟨u,h,by simp⟩⟩
theorem zbvz {u:Us} {l:List Us} (h:u∈l):own u.rs.v u.rs.xs∈usT l:=List.mem_map.2 ⟨u,h,rfl⟩
def RV.x (v:RV):SyV:=⟨v.pv,v.gv,v.qv,v.wv,v.uv⟩
theorem zbk1 {LL:List Thing} {n:Nat} (h:Hp H0 H LL) (hm:∀ t∈v.things R st L,t∈LL) (hu:v.uns.map Un.p=st.sy.uns) (hz:v.uz.map Us.p=st.us) (hs:Sm st n) (hn:n≤1000000):SysAt H v.x st.sy∧Users H v.sv v.uz:=by
 have own_of:∀ {α:Type} [Flat α] {w:V} {xs:List α},own w xs∈v.things R st L→ziu H w xs:=fun hmem=>h.all _ (hm _ hmem)
 refine⟨⟨(own_of (by simp[RV.things,RV.x])).sl,(own_of (by simp[RV.things,RV.x])).sl,(own_of (by simp[RV.things,RV.x])).sl,(own_of (by simp[RV.things,RV.x])).sl,⟨v.uns,⟨(own_of (by simp[RV.things,RV.x])).sl,fun u hmu=>?_⟩,hu⟩,?_⟩,(own_of (by simp[RV.things,RV.x])).sl,fun u hmu=>?_⟩
 ·obtain⟨m1,m2⟩:=zbvy hmu
  exact⟨(own_of (by simp[RV.things,m1])).sl,(own_of (by simp[RV.things,m2])).sl⟩
 ·have:=hs.pts;have:=hs.grs;have:=hs.prs;have:=hs.wins;have:=hs.uns
  omega
 ·have m1:=zbvz hmu
  refine⟨(own_of (by simp[RV.things,m1])).sl,?_⟩
  have:u.p∈st.us:=by rw[← hz];exact List.mem_map_of_mem hmu
  have:=hs.rol _ this
  simp only[Us.p] at this
  omega
theorem zbyu (H:Heap):zkr H z9 se0:=⟨⟨.slice none 0 0,.slice none 0 0,.slice none 0 0,.slice none 0 0,.slice none 0 0⟩,.slice none 0 0,[],rfl,⟨Sl.nil _,Sl.nil _,Sl.nil _,Sl.nil _,⟨[],⟨Sl.nil _,by simp⟩,rfl⟩,by simp[se0]⟩,⟨Sl.nil _,by simp⟩,rfl⟩
theorem z3f (n:Nat) (h:1≤n):((n:Int) - 1)=((n - 1:Nat):Int):=by omega
theorem zbfr (l:List ByteArray):l.dropLast=l.take (l.length - 1):=List.dropLast_eq_take
theorem zbk2 (l:List ByteArray) (h:l≠[]):l.getLastD zh4=wAt l (l.length - 1):=by
 cases l with
 | nil=>exact absurd rfl h
 | cons a l =>
  rw[wAt,List.getLastD_eq_getLast?,List.getLast?_eq_getElem?,List.getD_eq_getElem?_getD]
theorem z3g {G:List V→M V} (hT:Tabs H) (t:ByteArray) (Q:V→Heap→Prop)
  (hQ:∀ cs H',zkr H' cs (zhx t).1→Keeps [] H H'→Q (.tuple #[.agg cs.toArray,i64 (zhx t).2.1,i64 (zhx t).2.2]) H'):wp (zgs zkk G zcn zsu [.string t]) Q H:=by
 show wp (zz6 zkk G zcn zsu (.string t)) Q H
 have s1:Hp H (H.push (some (.cells true z9))) [cel H.next z9]:=(Hp.start H).newc _
 have ez:build [(Value.slice none 0 0:V),Value.slice none 0 0,Value.slice none 0 0,Value.int .i64 0,Value.slice none 0 0,Value.slice none 0 0,Value.int .i64 0,Value.slice none 0 0,Value.int .i64 0] []=some (.agg z9.toArray):=rfl
 have h9:z9.length=9:=rfl
 have o9:z9.all Value.isOne=true:=by decide
 unfold zz6
 rw[z6,z6]
 refine (z3x (by decide)).mpr ?_
 change wp _ _ (H.push (some (.cells true z9)))
 generalize hP:H.next=P at *
 generalize H.push (some (.cells true z9))=H1 at *
 have g1:=s1.get (i:=0) rfl
 have n1:=Heap.get_lt g1
 have fin:∀ {H2:Heap} {n e:Int},H2.get P=some (.cells true z9)→Keeps [] H H2→(zhx t)=(se0,n,e)→Q (.tuple #[.agg z9.toArray,i64 n,i64 e]) H2:=fun g2 k2 hp=>by
  have q:=hQ z9 _ (by rw[hp];exact zbyu _) k2
  rw[hp] at q;exact q
 by_cases c1:t.size > 65536
 ·have e1:decide ((t.size:Int) > 65536)=true:=decide_eq_true (by omega)
  have w9:=fun Q=>zc4 (n:=9) (Q:=Q) g1 h9 h9 o9
  (try simp(maxSteps:=1000000)(disch:=first|omega|(simp only[Z3];omega)|(simp;done)|assumption|decide|(apply not_not_intro;assumption))only[ZA,zo,zk,zj,zi,zh,ze,e1,ez,w9])
  have gz:=Heap.get_set_eq (x:=some (.cells true z9)) n1
  have d9:=fun Q=>zbc (n:=9) (Q:=Q) gz h9
  (try simp(maxSteps:=1000000)(disch:=first|omega|(simp only[Z3];omega)|(simp;done)|assumption|decide|(apply not_not_intro;assumption))only[ZA,zp,zo,zm,zk,zj,zi,zh,ze,d9])
  have s2:=s1.set (i:=0) rfl z9
  exact fin gz s2.keeps (by rw[zhx,if_pos c1])
 have e1:decide ((t.size:Int) > 65536)=false:=decide_eq_false (by omega)
 have hpar:zhx t=match zon zra 0 (zbv 10 t).dropLast with
  | .error (n,e)=>(se0,(n:Int),e)
  | .ok st=>if (zbv 10 t).getLastD zh4≠zh4 then (se0,((zbv 10 t).length:Int),3) else
   if zou st.sy st.us st.idle≠0 then (se0,0,zou st.sy st.us st.idle) else (⟨st.sy,st.us,st.idle⟩,0,0):=by
  rw[zhx,if_neg c1]
  rfl
 have hwz:∀ w∈zbv 10 t,w.size≤100000:=fun w hw=>by have:=zbgp hw;omega
 have hwl:=zbed 10 t
 have hwp:=zbee 10 t
 have hwn:=zbgl 10 t
 generalize hws:zbv 10 t=ws at *
 (try simp(maxSteps:=1000000)(disch:=first|omega|(simp only[Z3];omega)|(simp;done)|assumption|decide|(apply not_not_intro;assumption))only[ZA,zo,zk,zj,zi,zh,ze,e1,z5j])
 refine zbkt (hT.ml.keep0 s1.keeps) s1 t ⟨#[10]⟩ 10 (by decide) (by omega) _ fun w H2 k2 s2=>?_
 rw[hws] at s2
 have o2:=s2.own (i:=0) rfl
 have hlen:=o2.len
 have e2:zy .sub (i64 (ws.length:Int)) (Value.int .i64 1)=some (i64 ((ws.length - 1:Nat):Int)):=by
  show some (Value.int .i64 (IntKind.wrap .i64 ((ws.length:Int) - 1)))=_
  rw[z3f _ hwp,i64_in (by omega) (by omega)]
 obtain⟨u,hu,hsu⟩:=zbn7 (α:=ByteArray) (n:=1) rfl o2.sl (j:=ws.length - 1) (by omega)
 rw[← zbfr] at hsu
 have hu':zhs 1 w none (some (i64 ((ws.length:Int) - 1)))=some u:=by rw[z3f _ hwp];exact hu
 have hdl:ws.dropLast.length=ws.length - 1:=List.length_dropLast
 (try simp(maxSteps:=1000000)(disch:=first|omega|(simp only[Z3];omega)|(simp;done)|assumption|decide|(apply not_not_intro;assumption))only[ZA,zo,zk,zj,zi,zh,ze,hlen,hu'])
 have g2:=s2.get (i:=1) rfl
 refine zbvx (hT.keep0 s2.keeps) hsu (by omega) (fun s hs=>hwz s ((List.dropLast_sublist ws).subset hs)) _ (fun st hst v R H3 L3 r3 sm3=>?_) fun n e he hne H3 k3=>?_
 case refine_2 =>
  rw[he] at hpar
  have s3:=s2.keep0 k3
  have g3:=s3.get (i:=1) rfl
  have n3:=Heap.get_lt g3
  have w9:=fun Q=>zc4 (n:=9) (Q:=Q) g3 h9 h9 o9
  have e3:decide (e≠0)=true:=decide_eq_true hne
  (try simp(maxSteps:=1000000)(disch:=first|omega|(simp only[Z3];omega)|(simp;done)|assumption|decide|(apply not_not_intro;assumption))only[ZA,zo,zk,zj,zi,zh,ze,w9,e3,ez])
  have gz:=Heap.get_set_eq (x:=some (.cells true z9)) n3
  have w9':=fun Q=>zc4 (n:=9) (Q:=Q) gz h9 h9 o9
  (try simp(maxSteps:=1000000)(disch:=first|omega|(simp only[Z3];omega)|(simp;done)|assumption|decide|(apply not_not_intro;assumption))only[ZA,zo,zk,zj,zi,zh,ze,w9'])
  have d9:=fun Q=>zbc (n:=9) (Q:=Q) gz h9
  (try simp(maxSteps:=1000000)(disch:=first|omega|(simp only[Z3];omega)|(simp;done)|assumption|decide|(apply not_not_intro;assumption))only[ZA,zp,zo,zm,zk,zj,zi,zh,ze,d9])
  exact fin gz (s3.set (i:=1) rfl z9).keeps hpar
 rw[hst] at hpar
 simp only at hpar
 have s3:Hp H H3 (own w ws :: cel P z9 :: v.things R st L3):=(Hp.join s2 r3.hp).perm List.perm_append_comm
 have g3:=s3.get (i:=1) rfl
 have n3:=Heap.get_lt g3
 have hcl:((v.cells st).take 9).length=9:=rfl
 have hco:((v.cells st).take 9).all Value.isOne=true:=by
  have o1:=(r3.hp.own (i:=1) rfl).isOne
  have o2:=(r3.hp.own (i:=2) rfl).isOne
  have o3:=(r3.hp.own (i:=3) rfl).isOne
  have o4:=(r3.hp.own (i:=4) rfl).isOne
  have o5:=(r3.hp.own (i:=5) rfl).isOne
  have o6:=(r3.hp.own (i:=6) rfl).isOne
  simp[RV.cells,o1,o2,o3,o4,o5,o6]
 have w9:=fun Q=>zc4 (n:=9) (Q:=Q) g3 h9 hcl hco
 have s4:=s3.set (i:=1) rfl ((v.cells st).take 9)
 simp only[List.set_cons_succ,List.set_cons_zero] at s4
 have hwd:=z36 (s4.own (i:=0) rfl).sl (i:=ws.length - 1) (by omega)
 rw[← z3f _ hwp] at hwd
 obtain⟨a4,b4⟩:=hwd
 (try simp(maxSteps:=1000000)(disch:=first|omega|(simp only[Z3];omega)|(simp;done)|assumption|decide|(apply not_not_intro;assumption))only[ZA,zo,zk,zj,zi,zh,ze,w9])
 generalize H3.set P (some (.cells true ((v.cells st).take 9)))=H4 at *
 have g4:=s4.get (i:=1) rfl
 have n4:=Heap.get_lt g4
 rw[zbk2 ws hwn] at hpar
 by_cases c2:wAt ws (ws.length - 1)=zh4
 case neg =>
  rw[if_pos c2] at hpar
  have e3:decide (wAt ws (ws.length - 1)≠(⟨#[]⟩:ByteArray))=true:=decide_eq_true c2
  have w9':=fun Q=>zc4 (n:=9) (Q:=Q) g4 hcl h9 o9
  (try simp(maxSteps:=1000000)(disch:=first|omega|(simp only[Z3];omega)|(simp;done)|assumption|decide|(apply not_not_intro;assumption))only[ZA,zo,zk,zj,zi,zh,ze,a4,b4,e3,ez,w9'])
  have gz:=Heap.get_set_eq (x:=some (.cells true z9)) n4
  have d9:=fun Q=>zbc (n:=9) (Q:=Q) gz h9
  (try simp(maxSteps:=1000000)(disch:=first|omega|(simp only[Z3];omega)|(simp;done)|assumption|decide|(apply not_not_intro;assumption))only[ZA,zp,zo,zm,zk,zj,zi,zh,ze,d9])
  have s5:=s4.set (i:=1) rfl z9
  have:=fin gz s5.keeps hpar
  rw[show ((ws.length:Int) - 1 + 1)=(ws.length:Int) by omega]
  exact this
 rw[if_neg (fun q=>q c2)] at hpar
 have e3:decide (wAt ws (ws.length - 1)≠(⟨#[]⟩:ByteArray))=false:=decide_eq_false (fun q=>q c2)
 obtain⟨hsys,husr⟩:=zbk1 (n:=ws.dropLast.length) s4 (fun t ht=>by simp only[List.mem_cons];exact .inr (.inr ht)) r3.uns r3.us sm3 (by omega)
 have d7:∀ Q,wp (ldn 7 (ptr P 0)) Q H4↔Q (.agg (v.x.cs st.sy).toArray) H4:=fun Q=>by
  rw[zca,g4,zsi (by show 0 + 7≤9;omega)]
  rfl
 have c7:((v.cells st).take 9)[7]? = some v.sv:=rfl
 have c8:((v.cells st).take 9)[8]? = some (i64 st.idle):=rfl
 (try simp(maxSteps:=1000000)(disch:=first|omega|(simp only[Z3];omega)|(simp;done)|assumption|decide|(apply not_not_intro;assumption))only[ZA,zo,zk,zj,zi,zh,ze,a4,b4,e3,z5i,d7,g4,c7,c8])
 refine zbd5 hsys husr r3.us st.idle _ fun a H5 k5=>?_
 have s5:=s4.keep0 k5
 have g5:=s5.get (i:=1) rfl
 have n5:=Heap.get_lt g5
 by_cases c3:zou st.sy st.us st.idle=0
 case neg =>
  rw[if_pos c3] at hpar
  have e4:decide (zou st.sy st.us st.idle≠0)=true:=decide_eq_true c3
  have w9':=fun Q=>zc4 (n:=9) (Q:=Q) g5 hcl h9 o9
  (try simp(maxSteps:=1000000)(disch:=first|omega|(simp only[Z3];omega)|(simp;done)|assumption|decide|(apply not_not_intro;assumption))only[ZA,zo,zk,zj,zi,zh,ze,e4,ez,w9'])
  have gz:=Heap.get_set_eq (x:=some (.cells true z9)) n5
  have d9:=fun Q=>zbc (n:=9) (Q:=Q) gz h9
  (try simp(maxSteps:=1000000)(disch:=first|omega|(simp only[Z3];omega)|(simp;done)|assumption|decide|(apply not_not_intro;assumption))only[ZA,zp,zo,zm,zk,zj,zi,zh,ze,d9])
  exact fin gz (s5.set (i:=1) rfl z9).keeps hpar
 rw[if_neg (fun q=>q c3)] at hpar
 have e4:decide (zou st.sy st.us st.idle≠0)=false:=decide_eq_false (fun q=>q c3)
 have d9:=fun Q=>zbc (n:=9) (Q:=Q) g5 hcl
 have w9':=fun Q=>zc4 (n:=9) (Q:=Q) g5 hcl hcl hco
 (try simp(maxSteps:=1000000)(disch:=first|omega|(simp only[Z3];omega)|(simp;done)|assumption|decide|(apply not_not_intro;assumption))only[ZA,zo,zk,zj,zi,zh,ze,e4,z5h,d9,w9'])
 have gz:=Heap.get_set_eq (x:=some (.cells true ((v.cells st).take 9))) n5
 have d9':=fun Q=>zbc (n:=9) (Q:=Q) gz hcl
 (try simp(maxSteps:=1000000)(disch:=first|omega|(simp only[Z3];omega)|(simp;done)|assumption|decide|(apply not_not_intro;assumption))only[ZA,zp,zo,zm,zk,zj,zi,zh,ze,d9'])
 have s6:=s5.set (i:=1) rfl ((v.cells st).take 9)
 simp only[List.set_cons_succ,List.set_cons_zero] at s6
 obtain⟨hsys',husr'⟩:=zbk1 (n:=ws.dropLast.length) s6 (fun t ht=>by simp only[List.mem_cons];exact .inr (.inr ht)) r3.uns r3.us sm3 (by omega)
 have q:=hQ ((v.cells st).take 9) _ (by rw[hpar];exact⟨v.x,v.sv,v.uz,rfl,hsys',husr',r3.us⟩) s6.keeps
 rw[hpar] at q
 exact q
end Go.AM.Cap
