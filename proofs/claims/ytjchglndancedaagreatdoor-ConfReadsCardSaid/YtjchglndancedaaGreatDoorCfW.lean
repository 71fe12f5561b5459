import Derived.Test.YtjchglndancedaaGreatDoorCfU
import Derived.Test.YtjchglndancedaaGreatDoorAmOpenF
set_option linter.all false
/- conf: Parse -/
set_option maxHeartbeats 16000000
namespace Go.AM.Cap
open Go.AM Go.Proofs
variable {H0 H:Heap} {R:Nat} {v:RV} {st:RSt} {L:List Thing}
def zpa (H:Heap) (cs:List V) (s:Se3):Prop:=∃ (x:SyV) (w:V) (l:List Us),cs=x.cs s.sy ++ [w,i64 s.idle]∧SysAt H x s.sy∧Users H w l∧l.map Us.p=s.us
theorem zpa.keep0 {cs:List V} {s:Se3} {H':Heap} (h:zpa H cs s) (hk:Keeps [] H H'):zpa H' cs s:=by
 obtain⟨x,w,l,h1,h2,h3,h4⟩:=h
 exact⟨x,w,l,h1,h2.keep0 hk,h3.keep0 hk,h4⟩
theorem zb2t {u:Un} {l:List Un} (h:u∈l):own u.ins.v u.ins.xs∈unT l∧own u.outs.v u.outs.xs∈unT l:=by
 unfold unT
 exact⟨List.mem_flatMap.2 ⟨u,h,by simp⟩,List.mem_flatMap.2 ⟨u,h,by simp⟩⟩
theorem zb2u {u:Us} {l:List Us} (h:u∈l):own u.rs.v u.rs.xs∈usT l:=List.mem_map.2 ⟨u,h,rfl⟩
def RV.x (v:RV):SyV:=⟨v.pv,v.gv,v.qv,v.wv,v.uv⟩
theorem zbf0 {LL:List Thing} {n:Nat} (h:Hp H0 H LL) (hm:∀ t∈v.things R st L,t∈LL) (hu:v.uns.map Un.p=st.sy.uns) (hz:v.uz.map Us.p=st.us) (hs:Sm st n) (hn:n≤1000000):SysAt H v.x st.sy∧Users H v.sv v.uz:=by
 have own_of:∀ {α:Type} [Flat α] {w:V} {xs:List α},own w xs∈v.things R st L→zi7 H w xs:=fun hmem=>h.all _ (hm _ hmem)
 refine⟨⟨(own_of (by simp[RV.things,RV.x])).sl,(own_of (by simp[RV.things,RV.x])).sl,(own_of (by simp[RV.things,RV.x])).sl,(own_of (by simp[RV.things,RV.x])).sl,⟨v.uns,⟨(own_of (by simp[RV.things,RV.x])).sl,fun u hmu=>?_⟩,hu⟩,?_⟩,(own_of (by simp[RV.things,RV.x])).sl,fun u hmu=>?_⟩
 ·obtain⟨m1,m2⟩:=zb2t hmu
  exact⟨(own_of (by simp[RV.things,m1])).sl,(own_of (by simp[RV.things,m2])).sl⟩
 ·have:=hs.pts;have:=hs.grs;have:=hs.prs;have:=hs.wins;have:=hs.uns
  omega
 ·have m1:=zb2u hmu
  refine⟨(own_of (by simp[RV.things,m1])).sl,?_⟩
  have:u.p∈st.us:=by rw[← hz];exact List.mem_map_of_mem hmu
  have:=hs.rol _ this
  simp only[Us.p] at this
  omega
theorem zbp1 (H:Heap):zpa H z9 se0:=⟨⟨.slice none 0 0,.slice none 0 0,.slice none 0 0,.slice none 0 0,.slice none 0 0⟩,.slice none 0 0,[],rfl,⟨Sl.nil _,Sl.nil _,Sl.nil _,Sl.nil _,⟨[],⟨Sl.nil _,by simp⟩,rfl⟩,by simp[se0]⟩,⟨Sl.nil _,by simp⟩,rfl⟩
theorem zui (n:Nat) (h:1≤n):((n:Int) - 1)=((n - 1:Nat):Int):=by omega
theorem zbcd (l:List ByteArray):l.dropLast=l.take (l.length - 1):=List.dropLast_eq_take
theorem zbs3 (l:List ByteArray) (h:l≠[]):l.getLastD zeq=z8 l (l.length - 1):=by
 cases l with
 | nil=>exact absurd rfl h
 | cons a l =>
  rw[z8,List.getLastD_eq_getLast?,List.getLast?_eq_getElem?,List.getD_eq_getElem?_getD]
theorem zbkn {G:List V→M V} (hT:Tabs H) (t:ByteArray) (Q:V→Heap→Prop)
  (hQ:∀ cs H',zpa H' cs (zhb t).1→Keeps [] H H'→Q (.tuple #[.agg cs.toArray,i64 (zhb t).2.1,i64 (zhb t).2.2]) H'):wp (zkm zpv G zc3 zy9 [.string t]) Q H:=by
 show wp (z3o zpv G zc3 zy9 (.string t)) Q H
 have s1:Hp H (H.push (some (.cells true z9))) [cel H.next z9]:=(Hp.start H).newc _
 have ez:build [(Value.slice none 0 0:V),Value.slice none 0 0,Value.slice none 0 0,Value.int .i64 0,Value.slice none 0 0,Value.slice none 0 0,Value.int .i64 0,Value.slice none 0 0,Value.int .i64 0] []=some (.agg z9.toArray):=rfl
 have h9:z9.length=9:=rfl
 have o9:z9.all Value.isOne=true:=by decide
 unfold z3o
 rw[z6,z6]
 refine (zo5 (by decide)).mpr ?_
 change wp _ _ (H.push (some (.cells true z9)))
 generalize hP:H.next=P at *
 generalize H.push (some (.cells true z9))=H1 at *
 have g1:=s1.get (i:=0) rfl
 have n1:=Heap.get_lt g1
 have fin:∀ {H2:Heap} {n e:Int},H2.get P=some (.cells true z9)→Keeps [] H H2→(zhb t)=(se0,n,e)→Q (.tuple #[.agg z9.toArray,i64 n,i64 e]) H2:=fun g2 k2 hp=>by
  have q:=hQ z9 _ (by rw[hp];exact zbp1 _) k2
  rw[hp] at q;exact q
 by_cases c1:t.size > 65536
 ·have e1:decide ((t.size:Int) > 65536)=true:=decide_eq_true (by omega)
  have w9:=fun Q=>zb3 (n:=9) (Q:=Q) g1 h9 h9 o9
  (try simp(maxSteps:=1000000)(disch:=first|omega|(simp only[Z3];omega)|(simp;done)|assumption|decide|(apply not_not_intro;assumption))only[ZA,zo,zi,zf,zg,zh,zd,e1,ez,w9])
  have gz:=Heap.get_set_eq (x:=some (.cells true z9)) n1
  have d9:=fun Q=>z7 (n:=9) (Q:=Q) gz h9
  (try simp(maxSteps:=1000000)(disch:=first|omega|(simp only[Z3];omega)|(simp;done)|assumption|decide|(apply not_not_intro;assumption))only[ZA,zp,zo,zm,zi,zf,zg,zh,zd,d9])
  have s2:=s1.set (i:=0) rfl z9
  exact fin gz s2.keeps (by rw[zhb,if_pos c1])
 have e1:decide ((t.size:Int) > 65536)=false:=decide_eq_false (by omega)
 have hpar:zhb t=match zh9 zug 0 (zbd 10 t).dropLast with
  | .error (n,e)=>(se0,(n:Int),e)
  | .ok st=>if (zbd 10 t).getLastD zeq≠zeq then (se0,((zbd 10 t).length:Int),3) else
   if z34 st.sy st.us st.idle≠0 then (se0,0,z34 st.sy st.us st.idle) else (⟨st.sy,st.us,st.idle⟩,0,0):=by
  rw[zhb,if_neg c1]
  rfl
 have hwz:∀ w∈zbd 10 t,w.size≤100000:=fun w hw=>by have:=z9r hw;omega
 have hwl:=zyx 10 t
 have hwp:=zyy 10 t
 have hwn:=zbha 10 t
 generalize hws:zbd 10 t=ws at *
 (try simp(maxSteps:=1000000)(disch:=first|omega|(simp only[Z3];omega)|(simp;done)|assumption|decide|(apply not_not_intro;assumption))only[ZA,zo,zi,zf,zg,zh,zd,e1,zbbm])
 refine zbst (hT.ml.keep0 s1.keeps) s1 t ⟨#[10]⟩ 10 (by decide) (by omega) _ fun w H2 k2 s2=>?_
 rw[hws] at s2
 have o2:=s2.own (i:=0) rfl
 have hlen:=o2.len
 have e2:zr .sub (i64 (ws.length:Int)) (Value.int .i64 1)=some (i64 ((ws.length - 1:Nat):Int)):=by
  show some (Value.int .i64 (IntKind.wrap .i64 ((ws.length:Int) - 1)))=_
  rw[zui _ hwp,i64_in (by omega) (by omega)]
 obtain⟨u,hu,hsu⟩:=zbil (α:=ByteArray) (n:=1) rfl o2.sl (j:=ws.length - 1) (by omega)
 rw[← zbcd] at hsu
 have hu':zgs 1 w none (some (i64 ((ws.length:Int) - 1)))=some u:=by rw[zui _ hwp];exact hu
 have hdl:ws.dropLast.length=ws.length - 1:=List.length_dropLast
 (try simp(maxSteps:=1000000)(disch:=first|omega|(simp only[Z3];omega)|(simp;done)|assumption|decide|(apply not_not_intro;assumption))only[ZA,zo,zi,zf,zg,zh,zd,hlen,hu'])
 have g2:=s2.get (i:=1) rfl
 refine zb2s (hT.keep0 s2.keeps) hsu (by omega) (fun s hs=>hwz s ((List.dropLast_sublist ws).subset hs)) _ (fun st hst v R H3 L3 r3 sm3=>?_) fun n e he hne H3 k3=>?_
 case refine_2 =>
  rw[he] at hpar
  have s3:=s2.keep0 k3
  have g3:=s3.get (i:=1) rfl
  have n3:=Heap.get_lt g3
  have w9:=fun Q=>zb3 (n:=9) (Q:=Q) g3 h9 h9 o9
  have e3:decide (e≠0)=true:=decide_eq_true hne
  (try simp(maxSteps:=1000000)(disch:=first|omega|(simp only[Z3];omega)|(simp;done)|assumption|decide|(apply not_not_intro;assumption))only[ZA,zo,zi,zf,zg,zh,zd,w9,e3,ez])
  have gz:=Heap.get_set_eq (x:=some (.cells true z9)) n3
  have w9':=fun Q=>zb3 (n:=9) (Q:=Q) gz h9 h9 o9
  (try simp(maxSteps:=1000000)(disch:=first|omega|(simp only[Z3];omega)|(simp;done)|assumption|decide|(apply not_not_intro;assumption))only[ZA,zo,zi,zf,zg,zh,zd,w9'])
  have d9:=fun Q=>z7 (n:=9) (Q:=Q) gz h9
  (try simp(maxSteps:=1000000)(disch:=first|omega|(simp only[Z3];omega)|(simp;done)|assumption|decide|(apply not_not_intro;assumption))only[ZA,zp,zo,zm,zi,zf,zg,zh,zd,d9])
  exact fin gz (s3.set (i:=1) rfl z9).keeps hpar
 rw[hst] at hpar
 simp only at hpar
 have s3:Hp H H3 (own w ws :: cel P z9 :: v.things R st L3):=(Hp.join s2 r3.hp).perm List.perm_append_comm
 have g3:=s3.get (i:=1) rfl
 have n3:=Heap.get_lt g3
 have hcl:((v.cells st).take 9).length=9:=rfl
 have hco:((v.cells st).take 9).all Value.isOne=true:=by
  have o1:=(r3.hp.own (i:=1) rfl).isOne
  have o2:=(r3.hp.own (i:=2) rfl).isOne
  have o3:=(r3.hp.own (i:=3) rfl).isOne
  have o4:=(r3.hp.own (i:=4) rfl).isOne
  have o5:=(r3.hp.own (i:=5) rfl).isOne
  have o6:=(r3.hp.own (i:=6) rfl).isOne
  simp[RV.cells,o1,o2,o3,o4,o5,o6]
 have w9:=fun Q=>zb3 (n:=9) (Q:=Q) g3 h9 hcl hco
 have s4:=s3.set (i:=1) rfl ((v.cells st).take 9)
 simp only[List.set_cons_succ,List.set_cons_zero] at s4
 have hwd:=zwd (s4.own (i:=0) rfl).sl (i:=ws.length - 1) (by omega)
 rw[← zui _ hwp] at hwd
 obtain⟨a4,b4⟩:=hwd
 (try simp(maxSteps:=1000000)(disch:=first|omega|(simp only[Z3];omega)|(simp;done)|assumption|decide|(apply not_not_intro;assumption))only[ZA,zo,zi,zf,zg,zh,zd,w9])
 generalize H3.set P (some (.cells true ((v.cells st).take 9)))=H4 at *
 have g4:=s4.get (i:=1) rfl
 have n4:=Heap.get_lt g4
 rw[zbs3 ws hwn] at hpar
 by_cases c2:z8 ws (ws.length - 1)=zeq
 case neg =>
  rw[if_pos c2] at hpar
  have e3:decide (z8 ws (ws.length - 1)≠(⟨#[]⟩:ByteArray))=true:=decide_eq_true c2
  have w9':=fun Q=>zb3 (n:=9) (Q:=Q) g4 hcl h9 o9
  (try simp(maxSteps:=1000000)(disch:=first|omega|(simp only[Z3];omega)|(simp;done)|assumption|decide|(apply not_not_intro;assumption))only[ZA,zo,zi,zf,zg,zh,zd,a4,b4,e3,ez,w9'])
  have gz:=Heap.get_set_eq (x:=some (.cells true z9)) n4
  have d9:=fun Q=>z7 (n:=9) (Q:=Q) gz h9
  (try simp(maxSteps:=1000000)(disch:=first|omega|(simp only[Z3];omega)|(simp;done)|assumption|decide|(apply not_not_intro;assumption))only[ZA,zp,zo,zm,zi,zf,zg,zh,zd,d9])
  have s5:=s4.set (i:=1) rfl z9
  have:=fin gz s5.keeps hpar
  rw[show ((ws.length:Int) - 1 + 1)=(ws.length:Int) by omega]
  exact this
 rw[if_neg (fun q=>q c2)] at hpar
 have e3:decide (z8 ws (ws.length - 1)≠(⟨#[]⟩:ByteArray))=false:=decide_eq_false (fun q=>q c2)
 obtain⟨hsys,husr⟩:=zbf0 (n:=ws.dropLast.length) s4 (fun t ht=>by simp only[List.mem_cons];exact .inr (.inr ht)) r3.uns r3.us sm3 (by omega)
 have d7:∀ Q,wp (ldn 7 (ptr P 0)) Q H4↔Q (.agg (v.x.cs st.sy).toArray) H4:=fun Q=>by
  rw[zbh,g4,zpc (by show 0 + 7≤9;omega)]
  rfl
 have c7:((v.cells st).take 9)[7]? = some v.sv:=rfl
 have c8:((v.cells st).take 9)[8]? = some (i64 st.idle):=rfl
 (try simp(maxSteps:=1000000)(disch:=first|omega|(simp only[Z3];omega)|(simp;done)|assumption|decide|(apply not_not_intro;assumption))only[ZA,zo,zi,zf,zg,zh,zd,a4,b4,e3,zbbl,d7,g4,c7,c8])
 refine zbu1 hsys husr r3.us st.idle _ fun a H5 k5=>?_
 have s5:=s4.keep0 k5
 have g5:=s5.get (i:=1) rfl
 have n5:=Heap.get_lt g5
 by_cases c3:z34 st.sy st.us st.idle=0
 case neg =>
  rw[if_pos c3] at hpar
  have e4:decide (z34 st.sy st.us st.idle≠0)=true:=decide_eq_true c3
  have w9':=fun Q=>zb3 (n:=9) (Q:=Q) g5 hcl h9 o9
  (try simp(maxSteps:=1000000)(disch:=first|omega|(simp only[Z3];omega)|(simp;done)|assumption|decide|(apply not_not_intro;assumption))only[ZA,zo,zi,zf,zg,zh,zd,e4,ez,w9'])
  have gz:=Heap.get_set_eq (x:=some (.cells true z9)) n5
  have d9:=fun Q=>z7 (n:=9) (Q:=Q) gz h9
  (try simp(maxSteps:=1000000)(disch:=first|omega|(simp only[Z3];omega)|(simp;done)|assumption|decide|(apply not_not_intro;assumption))only[ZA,zp,zo,zm,zi,zf,zg,zh,zd,d9])
  exact fin gz (s5.set (i:=1) rfl z9).keeps hpar
 rw[if_neg (fun q=>q c3)] at hpar
 have e4:decide (z34 st.sy st.us st.idle≠0)=false:=decide_eq_false (fun q=>q c3)
 have d9:=fun Q=>z7 (n:=9) (Q:=Q) g5 hcl
 have w9':=fun Q=>zb3 (n:=9) (Q:=Q) g5 hcl hcl hco
 (try simp(maxSteps:=1000000)(disch:=first|omega|(simp only[Z3];omega)|(simp;done)|assumption|decide|(apply not_not_intro;assumption))only[ZA,zo,zi,zf,zg,zh,zd,e4,zbbk,d9,w9'])
 have gz:=Heap.get_set_eq (x:=some (.cells true ((v.cells st).take 9))) n5
 have d9':=fun Q=>z7 (n:=9) (Q:=Q) gz hcl
 (try simp(maxSteps:=1000000)(disch:=first|omega|(simp only[Z3];omega)|(simp;done)|assumption|decide|(apply not_not_intro;assumption))only[ZA,zp,zo,zm,zi,zf,zg,zh,zd,d9'])
 have s6:=s5.set (i:=1) rfl ((v.cells st).take 9)
 simp only[List.set_cons_succ,List.set_cons_zero] at s6
 obtain⟨hsys',husr'⟩:=zbf0 (n:=ws.dropLast.length) s6 (fun t ht=>by simp only[List.mem_cons];exact .inr (.inr ht)) r3.uns r3.us sm3 (by omega)
 have q:=hQ ((v.cells st).take 9) _ (by rw[hpar];exact⟨v.x,v.sv,v.uz,rfl,hsys',husr',r3.us⟩) s6.keeps
 rw[hpar] at q
 exact q
end Go.AM.Cap

/- conf: the same setup (printed by gencw.py) -/
set_option maxHeartbeats 16000000
namespace Go.AM.Cap
open Go.AM Go.Proofs
variable {H0 H:Heap}
theorem zb5z (p:Pt):zcp true (ze6 [.i,.b] (.agg (Flat.enc p).toArray) (.agg (Flat.enc p).toArray))=some (.bool false):=by
 simp[zbup,ze6,zlz,eqK,zcp]
theorem zb50 (p:Gr):zcp true (ze6 [.i,.i,.b] (.agg (Flat.enc p).toArray) (.agg (Flat.enc p).toArray))=some (.bool false):=by
 simp[zys,ze6,zlz,eqK,zcp]
theorem zb2v (p:Port):zcp true (ze6 [.i,.i,.i,.i,.i] (.agg (Flat.enc p).toArray) (.agg (Flat.enc p).toArray))=some (.bool false):=by
 simp[z8z,ze6,zlz,eqK,zcp]
theorem zb4z (p:Win):zcp true (ze6 [.i,.i,.i] (.agg (Flat.enc p).toArray) (.agg (Flat.enc p).toArray))=some (.bool false):=by
 simp[zh4,ze6,zlz,eqK,zcp]
theorem zb51 (p:Bd):zcp true (ze6 [.i,.i] (.agg (Flat.enc p).toArray) (.agg (Flat.enc p).toArray))=some (.bool false):=by
 simp[z09,ze6,zlz,eqK,zcp]
theorem zb52 (p:Rl):zcp true (ze6 [.i,.i] (.agg (Flat.enc p).toArray) (.agg (Flat.enc p).toArray))=some (.bool false):=by
 simp[zbdi,ze6,zlz,eqK,zcp]
theorem zbz4 {p q:Nat} {x y:SyV} {s:Sy} (gp:H.get p=some (.cells true (x.cs s))) (gq:H.get q=some (.cells true (y.cs s))) (hx:SysAt H x s) (hy:SysAt H y s) (Q:Out→Heap→Prop) (hQ:Q (.brk 0 [ptr p 0,ptr q 0]) H):wp (zbf zbs zjh [ptr p 0,ptr q 0,i64 0]) Q H:=by
 have hsm:=hx.small
 have lx:=hx.pts.len
 have ex:(x.cs s)[0]? = some x.pv:=rfl
 have ey:(y.cs s)[0]? = some y.pv:=rfl
 refine zbt s.pts.length (by omega) (fun j vs H'=>vs=[ptr p 0,ptr q 0,i64 j]∧H'=H) ⟨rfl,rfl⟩ ?_
 rintro j vs H1 hj ⟨rfl,rfl⟩
 by_cases hlt:j < s.pts.length
 case neg =>
  have:j=s.pts.length:=by omega
  subst this
  (try simp(maxSteps:=1000000)(disch:=first|omega|(simp only[Z3];omega)|(simp;done)|assumption|decide|(apply not_not_intro;assumption))only[ZB,zjh,gp,ex,lx])
  exact hQ
 have a1:=hx.pts.addr' (n:=2) rfl (k := .i64) (i:=j) (by omega) (by omega)
 have a2:=hy.pts.addr' (n:=2) rfl (k := .i64) (i:=j) (by omega) (by omega)
 rw[Int.toNat_natCast] at a1 a2
 have d1:=fun Q=>hx.pts.ldn' (Q:=Q) (n:=2) rfl hlt default
 have d2:=fun Q=>hy.pts.ldn' (Q:=Q) (n:=2) rfl hlt default
 have ee:=zb5z (s.pts.getD j default)
 (try simp(maxSteps:=1000000)(disch:=first|omega|(simp only[Z3];omega)|(simp;done)|assumption|decide|(apply not_not_intro;assumption))only[ZA,zp,zo,zm,zi,zf,zg,zh,zd,zjh,zvc,zvb,gp,gq,ex,ey,lx,a1,a2,d1,d2,ee])
 exact⟨hlt,rfl,trivial⟩
theorem zbz5 {p q:Nat} {x y:SyV} {s:Sy} (gp:H.get p=some (.cells true (x.cs s))) (gq:H.get q=some (.cells true (y.cs s))) (hx:SysAt H x s) (hy:SysAt H y s) (Q:Out→Heap→Prop) (hQ:Q (.brk 2 [ptr p 0,ptr q 0]) H):wp (zbf zbs zji [ptr p 0,ptr q 0,i64 0]) Q H:=by
 have hsm:=hx.small
 have lx:=hx.grs.len
 have ex:(x.cs s)[1]? = some x.gv:=rfl
 have ey:(y.cs s)[1]? = some y.gv:=rfl
 refine zbt s.grs.length (by omega) (fun j vs H'=>vs=[ptr p 0,ptr q 0,i64 j]∧H'=H) ⟨rfl,rfl⟩ ?_
 rintro j vs H1 hj ⟨rfl,rfl⟩
 by_cases hlt:j < s.grs.length
 case neg =>
  have:j=s.grs.length:=by omega
  subst this
  (try simp(maxSteps:=1000000)(disch:=first|omega|(simp only[Z3];omega)|(simp;done)|assumption|decide|(apply not_not_intro;assumption))only[ZB,zji,gp,ex,lx])
  exact hQ
 have a1:=hx.grs.addr' (n:=3) rfl (k := .i64) (i:=j) (by omega) (by omega)
 have a2:=hy.grs.addr' (n:=3) rfl (k := .i64) (i:=j) (by omega) (by omega)
 rw[Int.toNat_natCast] at a1 a2
 have d1:=fun Q=>hx.grs.ldn' (Q:=Q) (n:=3) rfl hlt default
 have d2:=fun Q=>hy.grs.ldn' (Q:=Q) (n:=3) rfl hlt default
 have ee:=zb50 (s.grs.getD j default)
 (try simp(maxSteps:=1000000)(disch:=first|omega|(simp only[Z3];omega)|(simp;done)|assumption|decide|(apply not_not_intro;assumption))only[ZA,zp,zo,zm,zi,zf,zg,zh,zd,zji,zve,zvd,gp,gq,ex,ey,lx,a1,a2,d1,d2,ee])
 exact⟨hlt,rfl,trivial⟩
theorem zbz6 {p q:Nat} {x y:SyV} {s:Sy} (gp:H.get p=some (.cells true (x.cs s))) (gq:H.get q=some (.cells true (y.cs s))) (hx:SysAt H x s) (hy:SysAt H y s) (Q:Out→Heap→Prop) (hQ:Q (.brk 4 [ptr p 0,ptr q 0]) H):wp (zbf zbs zjj [ptr p 0,ptr q 0,i64 0]) Q H:=by
 have hsm:=hx.small
 have lx:=hx.prs.len
 have ex:(x.cs s)[2]? = some x.qv:=rfl
 have ey:(y.cs s)[2]? = some y.qv:=rfl
 refine zbt s.prs.length (by omega) (fun j vs H'=>vs=[ptr p 0,ptr q 0,i64 j]∧H'=H) ⟨rfl,rfl⟩ ?_
 rintro j vs H1 hj ⟨rfl,rfl⟩
 by_cases hlt:j < s.prs.length
 case neg =>
  have:j=s.prs.length:=by omega
  subst this
  (try simp(maxSteps:=1000000)(disch:=first|omega|(simp only[Z3];omega)|(simp;done)|assumption|decide|(apply not_not_intro;assumption))only[ZB,zjj,gp,ex,lx])
  exact hQ
 have a1:=hx.prs.addr' (n:=5) rfl (k := .i64) (i:=j) (by omega) (by omega)
 have a2:=hy.prs.addr' (n:=5) rfl (k := .i64) (i:=j) (by omega) (by omega)
 rw[Int.toNat_natCast] at a1 a2
 have d1:=fun Q=>hx.prs.ldn' (Q:=Q) (n:=5) rfl hlt default
 have d2:=fun Q=>hy.prs.ldn' (Q:=Q) (n:=5) rfl hlt default
 have ee:=zb2v (s.prs.getD j default)
 (try simp(maxSteps:=1000000)(disch:=first|omega|(simp only[Z3];omega)|(simp;done)|assumption|decide|(apply not_not_intro;assumption))only[ZA,zp,zo,zm,zi,zf,zg,zh,zd,zjj,zvg,zvf,gp,gq,ex,ey,lx,a1,a2,d1,d2,ee])
 exact⟨hlt,rfl,trivial⟩
theorem zbxt {p q:Nat} {x y:SyV} {s:Sy} (gp:H.get p=some (.cells true (x.cs s))) (gq:H.get q=some (.cells true (y.cs s))) (hx:SysAt H x s) (hy:SysAt H y s) (Q:Out→Heap→Prop) (hQ:Q (.brk 6 [ptr p 0,ptr q 0]) H):wp (zbf zbs zio [ptr p 0,ptr q 0,i64 0]) Q H:=by
 have hsm:=hx.small
 have lx:=hx.wins.len
 have ex:(x.cs s)[4]? = some x.wv:=rfl
 have ey:(y.cs s)[4]? = some y.wv:=rfl
 refine zbt s.wins.length (by omega) (fun j vs H'=>vs=[ptr p 0,ptr q 0,i64 j]∧H'=H) ⟨rfl,rfl⟩ ?_
 rintro j vs H1 hj ⟨rfl,rfl⟩
 by_cases hlt:j < s.wins.length
 case neg =>
  have:j=s.wins.length:=by omega
  subst this
  (try simp(maxSteps:=1000000)(disch:=first|omega|(simp only[Z3];omega)|(simp;done)|assumption|decide|(apply not_not_intro;assumption))only[ZB,zio,gp,ex,lx])
  exact hQ
 have a1:=hx.wins.addr' (n:=3) rfl (k := .i64) (i:=j) (by omega) (by omega)
 have a2:=hy.wins.addr' (n:=3) rfl (k := .i64) (i:=j) (by omega) (by omega)
 rw[Int.toNat_natCast] at a1 a2
 have d1:=fun Q=>hx.wins.ldn' (Q:=Q) (n:=3) rfl hlt default
 have d2:=fun Q=>hy.wins.ldn' (Q:=Q) (n:=3) rfl hlt default
 have ee:=zb4z (s.wins.getD j default)
 (try simp(maxSteps:=1000000)(disch:=first|omega|(simp only[Z3];omega)|(simp;done)|assumption|decide|(apply not_not_intro;assumption))only[ZA,zp,zo,zm,zi,zf,zg,zh,zd,zio,zt6,zvh,gp,gq,ex,ey,lx,a1,a2,d1,d2,ee])
 exact⟨hlt,rfl,trivial⟩
theorem zbf1 {v w:V} {l:List Bd} (hv:Sl H v l) (hw:Sl H w l) (hl:l.length≤1000000000) (Q:V→Heap→Prop) (hQ:Q (.bool true) H):wp (zin [v,w]) Q H:=by
 show wp (zrr v w) Q H
 have lv:=hv.len
 have lw:=hw.len
 have e0:decide ((l.length:Int)≠(l.length:Int))=false:=by simp
 (try simp(maxSteps:=1000000)(disch:=first|omega|(simp only[Z3];omega)|(simp;done)|assumption|decide|(apply not_not_intro;assumption))only[ZB,zrr,lv,lw,e0,zyr])
 refine zbt l.length (by omega) (fun j vs H'=>vs=[v,w,i64 j]∧H'=H) ⟨rfl,rfl⟩ ?_
 rintro j vs H1 hj ⟨rfl,rfl⟩
 by_cases hlt:j < l.length
 case neg =>
  have:j=l.length:=by omega
  subst this
  (try simp(maxSteps:=1000000)(disch:=first|omega|(simp only[Z3];omega)|(simp;done)|assumption|decide|(apply not_not_intro;assumption))only[ZB,zpr,lv,zyq])
  exact hQ
 have a1:=hv.addr' (n:=2) rfl (k := .i64) (i:=j) (by omega) (by omega)
 have a2:=hw.addr' (n:=2) rfl (k := .i64) (i:=j) (by omega) (by omega)
 rw[Int.toNat_natCast] at a1 a2
 have d1:=fun Q=>hv.ldn' (Q:=Q) (n:=2) rfl hlt default
 have d2:=fun Q=>hw.ldn' (Q:=Q) (n:=2) rfl hlt default
 have ee:=zb51 (l.getD j default)
 (try simp(maxSteps:=1000000)(disch:=first|omega|(simp only[Z3];omega)|(simp;done)|assumption|decide|(apply not_not_intro;assumption))only[ZA,zp,zo,zm,zi,zf,zg,zh,zd,zpr,zyp,zyo,lv,a1,a2,d1,d2,ee])
 exact⟨hlt,rfl,trivial⟩
theorem zbz7 {p q:Nat} {x y:SyV} {s:Sy} (gp:H.get p=some (.cells true (x.cs s))) (gq:H.get q=some (.cells true (y.cs s))) (hx:SysAt H x s) (hy:SysAt H y s) (hb:∀ u∈s.uns,u.ins.length≤1000000000∧u.outs.length≤1000000000) (Q:Out→Heap→Prop) (hQ:Q (.brk 8 []) H):wp (zbf zbs ziq [ptr p 0,ptr q 0,i64 0]) Q H:=by
 have hsm:=hx.small
 obtain⟨ul,hu,hul⟩:=hx.uns
 obtain⟨wl,hw,hwl⟩:=hy.uns
 have lx:=hu.out.len
 have nu:s.uns.length=ul.length:=by rw[← hul,List.length_map]
 have nw:s.uns.length=wl.length:=by rw[← hwl,List.length_map]
 have ex:(x.cs s)[5]? = some x.uv:=rfl
 have ey:(y.cs s)[5]? = some y.uv:=rfl
 refine zbt ul.length (by omega) (fun j vs H'=>vs=[ptr p 0,ptr q 0,i64 j]∧H'=H) ⟨rfl,rfl⟩ ?_
 rintro j vs H1 hj ⟨rfl,rfl⟩
 by_cases hlt:j < ul.length
 case neg =>
  have:j=ul.length:=by omega
  subst this
  (try simp(maxSteps:=1000000)(disch:=first|omega|(simp only[Z3];omega)|(simp;done)|assumption|decide|(apply not_not_intro;assumption))only[ZB,ziq,gp,ex,lx])
  exact hQ
 have hlt2:j < wl.length:=by omega
 have e1:(ul.getD j default).p=s.uns.getD j default:=by rw[← hul];exact (zqa _ _ _ _ _ hlt).symm
 have e2:(wl.getD j default).p=s.uns.getD j default:=by rw[← hwl];exact (zqa _ _ _ _ _ hlt2).symm
 have hbj:=hb _ (zci (d:=default) (show j < s.uns.length by omega))
 have s1:=hu.at hlt
 have s2:=hw.at hlt2
 have i1:(ul.getD j default).ins.xs=(s.uns.getD j default).ins:=congrArg PUn.ins e1
 have i2:(wl.getD j default).ins.xs=(s.uns.getD j default).ins:=congrArg PUn.ins e2
 have o1:(ul.getD j default).outs.xs=(s.uns.getD j default).outs:=congrArg PUn.outs e1
 have o2:(wl.getD j default).outs.xs=(s.uns.getD j default).outs:=congrArg PUn.outs e2
 rw[i1,o1] at s1
 rw[i2,o2] at s2
 have a1:=hu.out.addr' (n:=2) rfl (k := .i64) (i:=j) (by omega) (by omega)
 have a2:=hw.out.addr' (n:=2) rfl (k := .i64) (i:=j) (by omega) (by omega)
 rw[Int.toNat_natCast] at a1 a2
 have c1:=hu.out.cell' (n:=2) rfl (off:=0) hlt (by omega) default
 have c2:=hu.out.cell' (n:=2) rfl (off:=1) hlt (by omega) default
 have c3:=hw.out.cell' (n:=2) rfl (off:=0) hlt2 (by omega) default
 have c4:=hw.out.cell' (n:=2) rfl (off:=1) hlt2 (by omega) default
 rw[zbj] at c1 c2 c3 c4
 rw[Nat.add_zero] at c1 c3
 rw[show (Flat.enc (ul.getD j default))[0]? = some (ul.getD j default).ins.v from rfl] at c1
 rw[show (Flat.enc (ul.getD j default))[1]? = some (ul.getD j default).outs.v from rfl] at c2
 rw[show (Flat.enc (wl.getD j default))[0]? = some (wl.getD j default).ins.v from rfl] at c3
 rw[show (Flat.enc (wl.getD j default))[1]? = some (wl.getD j default).outs.v from rfl] at c4
 (try simp(maxSteps:=1000000)(disch:=first|omega|(simp only[Z3];omega)|(simp;done)|assumption|decide|(apply not_not_intro;assumption))only[ZB,ziq,zt8,gp,gq,ex,ey,lx,a1,a2,c1,c3])
 refine zbf1 s1.1 s2.1 hbj.1 _ ?_
 (try simp(maxSteps:=1000000)(disch:=first|omega|(simp only[Z3];omega)|(simp;done)|assumption|decide|(apply not_not_intro;assumption))only[ZB,gp,gq,ex,ey,a1,a2,c2,c4])
 refine zbf1 s1.2 s2.2 hbj.2 _ ?_
 (try simp(maxSteps:=1000000)(disch:=first|omega|(simp only[Z3];omega)|(simp;done)|assumption|decide|(apply not_not_intro;assumption))only[ZB,zt7])
 exact⟨hlt,rfl,trivial⟩
theorem zbmq {x y:SyV} {s:Sy} (hx:SysAt H x s) (hy:SysAt H y s) (hb:∀ u∈s.uns,u.ins.length≤1000000000∧u.outs.length≤1000000000) (Q:V→Heap→Prop) (hQ:∀ H',Keeps [] H H'→Q (.bool true) H'):wp (zkq [.agg (x.cs s).toArray,.agg (y.cs s).toArray]) Q H:=by
 show wp (zps (.agg (x.cs s).toArray) (.agg (y.cs s).toArray)) Q H
 have ox:=hx.one
 have oy:=hy.one
 obtain⟨ul,hu,hul⟩:=hx.uns
 obtain⟨wl,hw,hwl⟩:=hy.uns
 have lu:=hu.out.len
 have lw:=hw.out.len
 have nu:s.uns.length=ul.length:=by rw[← hul,List.length_map]
 have nw:s.uns.length=wl.length:=by rw[← hwl,List.length_map]
 rw[← nu] at lu
 rw[← nw] at lw
 have q1:=hx.pts.len
 have q2:=hx.grs.len
 have q3:=hx.prs.len
 have q4:=hx.wins.len
 have r1:=hy.pts.len
 have r2:=hy.grs.len
 have r3:=hy.prs.len
 have r4:=hy.wins.len
 unfold zps
 rw[z6,z6]
 refine (zby ox).mpr ?_
 have k1:Keeps [] H (H.push (some (.cells true (x.cs s)))):=Keeps.push _ _ _
 have gx:(H.push (some (.cells true (x.cs s)))).get H.next=some (.cells true (x.cs s)):=Heap.get_push_self _ _
 generalize H.next=p at *
 generalize H.push (some (.cells true (x.cs s)))=H1 at *
 rw[z6]
 refine (zby oy).mpr ?_
 have k2:Keeps [] H1 (H1.push (some (.cells true (y.cs s)))):=Keeps.push _ _ _
 have gy:(H1.push (some (.cells true (y.cs s)))).get H1.next=some (.cells true (y.cs s)):=Heap.get_push_self _ _
 generalize H1.next=q at *
 generalize H1.push (some (.cells true (y.cs s)))=H2 at *
 have gx2:=k2.get gx (by simp)
 have k02:=k1.trans k2 (fun _ _ h=>h)
 have ex:x.cs s=[x.pv,x.gv,x.qv,i64 s.frame,x.wv,x.uv,i64 s.millis]:=rfl
 have ey:y.cs s=[y.pv,y.gv,y.qv,i64 s.frame,y.wv,y.uv,i64 s.millis]:=rfl
 have en:∀ n:Int,decide (n≠n)=false:=fun n=>by simp
 (try simp(maxSteps:=1000000)(disch:=first|omega|(simp only[Z3];omega)|(simp;done)|assumption|decide|(apply not_not_intro;assumption))only[ZB,gx2,gy,ex,ey,q1,q2,q3,q4,r1,r2,r3,r4,lu,lw,en,zue])
 have hx2:=hx.keep0 k02
 have hy2:=hy.keep0 k02
 refine zbz4 gx2 gy hx2 hy2 _ ?_
 (try simp(maxSteps:=1000000)(disch:=first|omega|(simp only[Z3];omega)|(simp;done)|assumption|decide|(apply not_not_intro;assumption))only[ZB,zud])
 refine zbz5 gx2 gy hx2 hy2 _ ?_
 (try simp(maxSteps:=1000000)(disch:=first|omega|(simp only[Z3];omega)|(simp;done)|assumption|decide|(apply not_not_intro;assumption))only[ZB,zuc])
 refine zbz6 gx2 gy hx2 hy2 _ ?_
 (try simp(maxSteps:=1000000)(disch:=first|omega|(simp only[Z3];omega)|(simp;done)|assumption|decide|(apply not_not_intro;assumption))only[ZB,zub])
 refine zbxt gx2 gy hx2 hy2 _ ?_
 (try simp(maxSteps:=1000000)(disch:=first|omega|(simp only[Z3];omega)|(simp;done)|assumption|decide|(apply not_not_intro;assumption))only[ZB,zua])
 refine zbz7 gx2 gy hx2 hy2 hb _ ?_
 (try simp(maxSteps:=1000000)(disch:=first|omega|(simp only[Z3];omega)|(simp;done)|assumption|decide|(apply not_not_intro;assumption))only[ZB,zt9])
 exact hQ _ k02
end Go.AM.Cap
