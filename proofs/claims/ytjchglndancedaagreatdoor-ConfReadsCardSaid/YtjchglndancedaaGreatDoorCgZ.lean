import Derived.Test.YtjchglndancedaaGreatDoorCgX
import Derived.Test.YtjchglndancedaaGreatDoorCfLib
import Derived.Test.YtjchglndancedaaGreatDoorAmOpenF
set_option linter.all false
/- conf, the document: Parse -/
set_option maxHeartbeats 16000000
namespace Go.AM.Cap
open Go.AM Go.Proofs
variable {H:Heap}
def zbkx:ByteArray:=⟨#[110,111,110,101]⟩
theorem zb27:zom (z8 (zbd 32 zbkx) 0)=none:=by kernel_rfl
theorem zbx6 (st:RSt):zi6 st zbkx = .error 3:=by
 have h:¬ (zbkx.size=0∨(bv zbkx).headD 0=35#8):=by decide
 rw[zi6,if_neg h]
 simp only[zb27]
def zzv (ls:List ByteArray):Se3 × Int × Int:=match zh9 zug 0 ls with
 | .error (n,e)=>(se0,n,e)
 | .ok st=>if z34 st.sy st.us st.idle≠0 then (se0,0,z34 st.sy st.us st.idle) else (⟨st.sy,st.us,st.idle⟩,0,0)
theorem zbvb {t:ByteArray} (hs:¬ t.size > 65536):zhb t=zzv (if (zbd 10 t).getLastD zeq=zeq then (zbd 10 t).dropLast else (zbd 10 t).dropLast ++ [zbkx]):=by
 rw[zhb,if_neg hs]
 have hp:=zyy 10 t
 simp only
 by_cases c:(zbd 10 t).getLastD zeq=zeq
 ·rw[if_pos c,zzv]
  cases zh9 zug 0 (zbd 10 t).dropLast with
  | error ne=>rfl
  | ok st=>simp only;rw[if_neg (fun q=>q c)]
 ·rw[if_neg c,zzv,zbnl]
  cases zh9 zug 0 (zbd 10 t).dropLast with
  | error ne=>rfl
  | ok st =>
   simp only
   rw[if_pos c,zh9,zbx6]
   simp only
   rw[List.length_dropLast]
   congr 2
   omega
theorem zbh9 {H2:Heap} {LL:List Thing} {P:Nat} {lv:V} {ls:List ByteArray} (s2:Hp H H2 (cel P z9 :: LL)) (hl:Sl H2 lv ls) (hn:ls.length≤100000) (hz:∀ s∈ls,s.size≤100000) (Q:Out→Heap→Prop)
  (hQ:∀ cs H',H'.get P=some (.cells true cs)→zpa H' cs (zzv ls).1→Keeps [] H H'→Q (.ret [ptr P 0,i64 (zzv ls).2.1,i64 (zzv ls).2.2]) H'):wp (zyn [ptr P 0,lv]) Q H2:=by
 have ez:build [(Value.slice none 0 0:V),Value.slice none 0 0,Value.slice none 0 0,Value.int .i64 0,Value.slice none 0 0,Value.slice none 0 0,Value.int .i64 0,Value.slice none 0 0,Value.int .i64 0] []=some (.agg z9.toArray):=rfl
 have h9:z9.length=9:=rfl
 have o9:z9.all Value.isOne=true:=by decide
 unfold zyn
 simp only[z6,zbvo,zbvp]
 refine zb0v hl hn hz _ (fun st hst v R H3 L3 r3 sm3=>?_) fun n e he hne H3 k3=>?_
 case refine_2 =>
  have hpar:zzv ls=(se0,(n:Int),e):=by rw[zzv,he]
  have s3:=s2.keep0 k3
  have e1:∀ Q,wp (newc [Value.slice none 0 0,Value.slice none 0 0,Value.slice none 0 0,Value.int .i64 0,Value.slice none 0 0,Value.slice none 0 0,Value.int .i64 0,Value.slice none 0 0,Value.int .i64 0]) Q H3↔Q (ptr H3.next 0) (H3.push (some (.cells true z9))):=fun Q=>zo5 (by decide)
  have s4:=s3.newc z9
  have g4:=s4.get (i:=0) rfl
  have w4:=fun Q=>zb3 (n:=9) (Q:=Q) g4 h9 h9 o9
  simp only[z6,zvk,zie,List.getElem?_cons_zero,List.getElem?_cons_succ,zqn,e1,w4]
  have s5:=s4.set (i:=0) rfl z9
  simp only[List.set_cons_zero] at s5
  generalize (H3.push (some (.cells true z9))).set H3.next (some (.cells true z9))=H5 at *
  have g5:=s5.get (i:=1) rfl
  have w5:=fun Q=>zb3 (n:=9) (Q:=Q) g5 h9 h9 o9
  have e3:decide (e≠0)=true:=decide_eq_true hne
  have n5:=Heap.get_lt g5
  have s6:=s5.set (i:=1) rfl z9
  have gz:=Heap.get_set_eq (x:=some (.cells true z9)) n5
  (try simp(maxSteps:=1000000)(disch:=first|omega|(simp only[Z3];omega)|(simp;done)|assumption|decide|(apply not_not_intro;assumption))only[ZA,zo,zi,zf,zg,zh,zd,e3,ez,w5])
  have q:=hQ z9 _ gz (by rw[hpar];exact zbp1 _) s6.keeps
  rw[hpar] at q
  exact q
 have hpar:zzv ls=if z34 st.sy st.us st.idle≠0 then (se0,0,z34 st.sy st.us st.idle) else (⟨st.sy,st.us,st.idle⟩,0,0):=by rw[zzv,hst]
 have s3:Hp H H3 (cel P z9 :: (LL ++ v.things R st L3)):=(Hp.join s2 r3.hp).perm List.perm_append_comm
 have e1:∀ Q,wp (newc [Value.slice none 0 0,Value.slice none 0 0,Value.slice none 0 0,Value.int .i64 0,Value.slice none 0 0,Value.slice none 0 0,Value.int .i64 0,Value.slice none 0 0,Value.int .i64 0]) Q H3↔Q (ptr H3.next 0) (H3.push (some (.cells true z9))):=fun Q=>zo5 (by decide)
 have hcl:((v.cells st).take 9).length=9:=rfl
 have hco:((v.cells st).take 9).all Value.isOne=true:=by
  have o1:=(r3.hp.own (i:=1) rfl).isOne
  have o2:=(r3.hp.own (i:=2) rfl).isOne
  have o3:=(r3.hp.own (i:=3) rfl).isOne
  have o4:=(r3.hp.own (i:=4) rfl).isOne
  have o5:=(r3.hp.own (i:=5) rfl).isOne
  have o6:=(r3.hp.own (i:=6) rfl).isOne
  simp[RV.cells,o1,o2,o3,o4,o5,o6]
 have s4:=s3.newc z9
 have g4:=s4.get (i:=0) rfl
 have w4:=fun Q=>zb3 (n:=9) (Q:=Q) g4 h9 hcl hco
 simp only[z6,zvk,zie,List.getElem?_cons_zero,List.getElem?_cons_succ,zqn,e1,w4]
 have s5:=s4.set (i:=0) rfl ((v.cells st).take 9)
 simp only[List.set_cons_zero] at s5
 generalize (H3.push (some (.cells true z9))).set H3.next (some (.cells true ((v.cells st).take 9)))=H5 at *
 generalize H3.next=B at *
 have g5:=s5.get (i:=0) rfl
 have hgs:=sm3.grs
 have e0:decide ((0:Int)≠0)=false:=by decide
 obtain⟨hsys,husr⟩:=zbf0 (L:=L3) (n:=ls.length) s5 (fun t ht=>by simp only[List.mem_cons,List.mem_append];exact .inr (.inr (.inr ht))) r3.uns r3.us sm3 (by omega)
 have d7:∀ Q,wp (ldn 7 (ptr B 0)) Q H5↔Q (.agg (v.x.cs st.sy).toArray) H5:=fun Q=>by
  rw[zbh,g5,zpc (by show 0 + 7≤9;omega)]
  rfl
 have c7:((v.cells st).take 9)[7]? = some v.sv:=rfl
 have c8:((v.cells st).take 9)[8]? = some (i64 st.idle):=rfl
 (try simp(maxSteps:=1000000)(disch:=first|omega|(simp only[Z3];omega)|(simp;done)|assumption|decide|(apply not_not_intro;assumption))only[ZA,zo,zi,zf,zg,zh,zd,e0,z8w,d7,g5,c7,c8])
 refine zbte hsys (by omega) husr r3.us st.idle _ fun a H6 k6=>?_
 have s6:=s5.keep0 k6
 have g6:=s6.get (i:=1) rfl
 have g6':=s6.get (i:=0) rfl
 have n6:=Heap.get_lt g6
 by_cases c3:z34 st.sy st.us st.idle=0
 case neg =>
  rw[if_pos c3] at hpar
  have e4:decide (z34 st.sy st.us st.idle≠0)=true:=decide_eq_true c3
  have w6:=fun Q=>zb3 (n:=9) (Q:=Q) g6 h9 h9 o9
  have s7:=s6.set (i:=1) rfl z9
  have gz:=Heap.get_set_eq (x:=some (.cells true z9)) n6
  (try simp(maxSteps:=1000000)(disch:=first|omega|(simp only[Z3];omega)|(simp;done)|assumption|decide|(apply not_not_intro;assumption))only[ZA,zo,zi,zf,zg,zh,zd,e4,ez,w6])
  have q:=hQ z9 _ gz (by rw[hpar];exact zbp1 _) s7.keeps
  rw[hpar] at q
  exact q
 rw[if_neg (fun q=>q c3)] at hpar
 have e4:decide (z34 st.sy st.us st.idle≠0)=false:=decide_eq_false (fun q=>q c3)
 have d9:=fun Q=>z7 (n:=9) (Q:=Q) g6' hcl
 have w9:=fun Q=>zb3 (n:=9) (Q:=Q) g6 h9 hcl hco
 (try simp(maxSteps:=1000000)(disch:=first|omega|(simp only[Z3];omega)|(simp;done)|assumption|decide|(apply not_not_intro;assumption))only[ZA,zo,zi,zf,zg,zh,zd,e4,z8v,d9,w9])
 have gz:=Heap.get_set_eq (x:=some (.cells true ((v.cells st).take 9))) n6
 have s7:=s6.set (i:=1) rfl ((v.cells st).take 9)
 simp only[List.set_cons_succ,List.set_cons_zero] at s7
 obtain⟨hsys',husr'⟩:=zbf0 (L:=L3) (n:=ls.length) s7 (fun t ht=>by simp only[List.mem_cons,List.mem_append];exact .inr (.inr (.inr ht))) r3.uns r3.us sm3 (by omega)
 have q:=hQ ((v.cells st).take 9) _ gz (by rw[hpar];exact⟨v.x,v.sv,v.uz,rfl,hsys',husr',r3.us⟩) s7.keeps
 rw[hpar] at q
 exact q
theorem zbx7 (t:ByteArray) (Q:V→Heap→Prop)
  (hQ:∀ cs H',zpa H' cs (zhb t).1→Keeps [] H H'→Q (.tuple #[.agg cs.toArray,i64 (zhb t).2.1,i64 (zhb t).2.2]) H'):wp (ztk [.string t]) Q H:=by
 show wp (z06 (.string t)) Q H
 have s1:Hp H (H.push (some (.cells true z9))) [cel H.next z9]:=(Hp.start H).newc _
 have ez:build [(Value.slice none 0 0:V),Value.slice none 0 0,Value.slice none 0 0,Value.int .i64 0,Value.slice none 0 0,Value.slice none 0 0,Value.int .i64 0,Value.slice none 0 0,Value.int .i64 0] []=some (.agg z9.toArray):=rfl
 have h9:z9.length=9:=rfl
 have o9:z9.all Value.isOne=true:=by decide
 unfold z06
 rw[z6,z6]
 refine (zo5 (by decide)).mpr ?_
 change wp _ _ (H.push (some (.cells true z9)))
 generalize hP:H.next=P at *
 generalize H.push (some (.cells true z9))=H1 at *
 have g1:=s1.get (i:=0) rfl
 have n1:=Heap.get_lt g1
 by_cases c1:t.size > 65536
 ·have e1:decide ((t.size:Int) > 65536)=true:=decide_eq_true (by omega)
  have w9:=fun Q=>zb3 (n:=9) (Q:=Q) g1 h9 h9 o9
  (try simp(maxSteps:=1000000)(disch:=first|omega|(simp only[Z3];omega)|(simp;done)|assumption|decide|(apply not_not_intro;assumption))only[ZA,zo,zi,zf,zg,zh,zd,e1,ez,w9])
  have gz:=Heap.get_set_eq (x:=some (.cells true z9)) n1
  have d9:=fun Q=>z7 (n:=9) (Q:=Q) gz h9
  (try simp(maxSteps:=1000000)(disch:=first|omega|(simp only[Z3];omega)|(simp;done)|assumption|decide|(apply not_not_intro;assumption))only[ZA,zp,zo,zm,zi,zf,zg,zh,zd,d9])
  have s2:=s1.set (i:=0) rfl z9
  have hp:zhb t=(se0,0,2):=by rw[zhb,if_pos c1]
  have q:=hQ z9 _ (by rw[hp];exact zbp1 _) s2.keeps
  rw[hp] at q
  exact q
 have e1:decide ((t.size:Int) > 65536)=false:=decide_eq_false (by omega)
 have hpar:=zbvb c1
 have hwz:∀ w∈zbd 10 t,w.size≤100000:=fun w hw=>by have:=z9r hw;omega
 have hwl:=zyx 10 t
 have hwp:=zyy 10 t
 have hwn:=zbha 10 t
 have fin:∀ {ls:List ByteArray} {cs:List V} {H':Heap},zhb t=zzv ls→H'.get P=some (.cells true cs)→zpa H' cs (zzv ls).1→Keeps [] H H'→wp (ldn 9 (ptr P 0)) (fun r H''=>Q (.tuple #[r,i64 (zzv ls).2.1,i64 (zzv ls).2.2]) H'') H':=fun {ls cs H'} hp hg hs hk=>by
  obtain⟨hc,_⟩:=hs.nine
  rw[← hp] at hs ⊢
  exact (z7 (n:=9) hg hc).mpr (hQ cs H' hs hk)
 (try simp(maxSteps:=1000000)(disch:=first|omega|(simp only[Z3];omega)|(simp;done)|assumption|decide|(apply not_not_intro;assumption))only[ZA,zo,zi,zf,zg,zh,zd,e1,z8x])
 refine zb0i t (by omega) _ (fun hl w H2 s2'=>?_) fun hl w H2 s2'=>?_
 ·have s2:=(s1.join s2').perm List.perm_append_comm
  have o2:=s2.own (i:=1) rfl
  rw[if_pos hl] at hpar
  (try simp(maxSteps:=1000000)(disch:=first|omega|(simp only[Z3];omega)|(simp;done)|assumption|decide|(apply not_not_intro;assumption))only[ZA,zo,zi,zf,zg,zh,zd])
  refine zbh9 s2 o2.sl (by rw[List.length_dropLast];omega) (fun s hs=>hwz s ((List.dropLast_sublist _).subset hs)) _ fun cs H' hg hs hk=>?_
  (try simp(maxSteps:=1000000)(disch:=first|omega|(simp only[Z3];omega)|(simp;done)|assumption|decide|(apply not_not_intro;assumption))only[ZA,zo,zi,zf,zg,zh,zd])
  exact fin hpar hg hs hk
 ·have s2:=(s1.join s2').perm List.perm_append_comm
  have o2:=s2.own (i:=1) rfl
  rw[if_neg hl] at hpar
  generalize hws:zbd 10 t=ws at *
  have hlen:=o2.len
  have e2:zr .sub (i64 (ws.length:Int)) (Value.int .i64 1)=some (i64 ((ws.length - 1:Nat):Int)):=by
   show some (Value.int .i64 (IntKind.wrap .i64 ((ws.length:Int) - 1)))=_
   rw[zui _ hwp,i64_in (by omega) (by omega)]
  (try simp(maxSteps:=1000000)(disch:=first|omega|(simp only[Z3];omega)|(simp;done)|assumption|decide|(apply not_not_intro;assumption))only[ZA,zo,zi,zf,zg,zh,zd,hlen])
  refine (zi8 (by decide) (by rfl:zbn (rep 0 [Value.string ⟨#[]⟩]) []=some (zbm ([]:List ByteArray)))).mpr ?_
  have s3:=s2.newo (α:=ByteArray) (n:=1) (m:=0) [] rfl rfl
  generalize hH3:H2.push (some (.cells true (zbm ([]:List ByteArray))))=H3 at *
  generalize hB:H2.next=B at *
  have o3:=s3.own (i:=2) rfl
  obtain⟨u,hu,hsu⟩:=zbil (α:=ByteArray) (n:=1) rfl o3.sl (j:=ws.length - 1) (by omega)
  rw[← zbcd] at hsu
  have hu':zgs 1 w none (some (i64 ((ws.length:Int) - 1)))=some u:=by rw[zui _ hwp];exact hu
  have hdl:ws.dropLast.length=ws.length - 1:=List.length_dropLast
  (try simp(maxSteps:=1000000)(disch:=first|omega|(simp only[Z3];omega)|(simp;done)|assumption|decide|(apply not_not_intro;assumption))only[ZA,zo,zi,zf,zg,zh,zd,hlen,hu'])
  refine zvl (α:=ByteArray) (n:=1) s3 (i:=0) rfl rfl hsu (by simp;omega) (by simp;omega) fun a H4 s4=>?_
  simp only[List.set_cons_zero,List.nil_append] at s4
  (try simp(maxSteps:=1000000)(disch:=first|omega|(simp only[Z3];omega)|(simp;done)|assumption|decide|(apply not_not_intro;assumption))only[ZA,zo,zi,zf,zg,zd])
  refine zf5 (α:=ByteArray) (n:=1) (ys:=[zbkx]) s4 (i:=0) rfl rfl (by decide) (by rw[show rep 1 [Value.string ⟨#[]⟩]=[Value.string ⟨#[]⟩] from rfl,zd rfl (by decide),zba];rfl) rfl (by simp;omega) (by simp;omega) fun b H5 s5=>?_
  simp only[List.set_cons_zero] at s5
  have s6:Hp H H5 (cel P z9 :: [own b (ws.dropLast ++ [zbkx]),own w ws]):=s5.perm (List.Perm.swap _ _ _)
  have o6:=s6.own (i:=1) rfl
  (try simp(maxSteps:=1000000)(disch:=first|omega|(simp only[Z3];omega)|(simp;done)|assumption|decide|(apply not_not_intro;assumption))only[ZA,zo,zi,zf,zg,zh,zd])
  refine zbh9 s6 o6.sl (by simp;omega) (fun s hs=>?_) _ fun cs H' hg hs hk=>?_
  ·rcases List.mem_append.1 hs with q | q
   ·exact hwz s ((List.dropLast_sublist _).subset q)
   ·simp only[List.mem_cons,List.not_mem_nil,or_false] at q
    subst q;decide
  ·(try simp(maxSteps:=1000000)(disch:=first|omega|(simp only[Z3];omega)|(simp;done)|assumption|decide|(apply not_not_intro;assumption))only[ZA,zo,zi,zf,zg,zh,zd])
   exact fin hpar hg hs hk
end Go.AM.Cap

/- conf: ConfReads, the walk -/
set_option maxHeartbeats 16000000
namespace Go.AM.Cap
open Go.AM Go.Proofs
variable {H:Heap}
theorem reads_ok {G:List V→M V} (hT:Tabs H) (t:ByteArray) (Q:V→Heap→Prop) (hQ:∀ H',Q (.bool true) H'):wp (zzt zpv G zc3 zy9 [.string t]) Q H:=by
 show wp (zrs zpv G zc3 zy9 (.string t)) Q H
 unfold zrs
 rw[z6,z6]
 refine zbkn hT t _ fun cs H3 h3 k3=>?_
 have p1:=zbp2 (t:=t)
 obtain⟨h9,o9⟩:=h3.nine
 have g3:(H3.push (some (.cells true z9))).get H3.next=some (.cells true z9):=Heap.get_push_self _ _
 have w3:=fun Q=>zb3 (n:=9) (Q:=Q) g3 rfl h9 o9
 have e3:∀ Q,wp (newc [Value.slice none 0 0,Value.slice none 0 0,Value.slice none 0 0,Value.int .i64 0,Value.slice none 0 0,Value.slice none 0 0,Value.int .i64 0,Value.slice none 0 0,Value.int .i64 0]) Q H3↔Q (ptr H3.next 0) (H3.push (some (.cells true z9))):=fun Q=>zo5 (by decide)
 simp only[z6,zvk,zie,List.getElem?_cons_zero,List.getElem?_cons_succ,zqn,e3,w3]
 have k4:Keeps [] H3 ((H3.push (some (.cells true z9))).set H3.next (some (.cells true cs))):=zb1 (Keeps.push _ _ _) (.inr (Nat.le_refl _))
 have g4:((H3.push (some (.cells true z9))).set H3.next (some (.cells true cs))).get H3.next=some (.cells true cs):=Heap.get_set_self (by simp)
 generalize H3.next=p at *
 generalize (H3.push (some (.cells true z9))).set p (some (.cells true cs))=H4 at *
 have k14:=k3.trans k4 (fun _ _ h=>h)
 have h4:=h3.keep0 k4
 refine zbx7 t _ fun ds H5 h5 k5=>?_
 have g5:=k5.get g4 (by simp)
 have h45:=h4.keep0 k5
 generalize zhb t=P1 at *
 obtain⟨h9',o9'⟩:=h5.nine
 have g6:(H5.push (some (.cells true z9))).get H5.next=some (.cells true z9):=Heap.get_push_self _ _
 have w6:=fun Q=>zb3 (n:=9) (Q:=Q) g6 rfl h9' o9'
 have e6:∀ Q,wp (newc [Value.slice none 0 0,Value.slice none 0 0,Value.slice none 0 0,Value.int .i64 0,Value.slice none 0 0,Value.slice none 0 0,Value.int .i64 0,Value.slice none 0 0,Value.int .i64 0]) Q H5↔Q (ptr H5.next 0) (H5.push (some (.cells true z9))):=fun Q=>zo5 (by decide)
 simp only[z6,zvk,zie,List.getElem?_cons_zero,List.getElem?_cons_succ,zqn,e6,w6]
 have k6:Keeps [] H5 ((H5.push (some (.cells true z9))).set H5.next (some (.cells true ds))):=zb1 (Keeps.push _ _ _) (.inr (Nat.le_refl _))
 have g7:((H5.push (some (.cells true z9))).set H5.next (some (.cells true ds))).get H5.next=some (.cells true ds):=Heap.get_set_self (by simp)
 generalize H5.next=q at *
 generalize (H5.push (some (.cells true z9))).set q (some (.cells true ds))=H6 at *
 have g8:=k6.get g5 (by simp)
 have h46:=h45.keep0 k6
 have h56:=h5.keep0 k6
 have k16:=(k14.trans k5 (fun _ _ h=>h)).trans k6 (fun _ _ h=>h)
 have d1:=fun Q=>z7 (n:=9) (Q:=Q) g8 h9
 have d2:=fun Q=>z7 (n:=9) (Q:=Q) g7 h9'
 have fin:=zb2x h46 h56 p1.1 p1.2.1
 have t1:decide (P1.2.1=P1.2.1)=true:=decide_eq_true rfl
 have t2:decide (P1.2.2=P1.2.2)=true:=decide_eq_true rfl
 simp only[d1,d2]
 refine fin _ fun H7 k7=>?_
 (try simp(maxSteps:=1000000)(disch:=first|omega|(simp only[Z3];omega)|(simp;done)|assumption|decide|(apply not_not_intro;assumption))only[ZB,t1,t2])
 refine zbz8 (hT.keep0 (k16.trans k7 (fun _ _ h=>h))) _ fun H8 k8=>?_
 (try simp(maxSteps:=1000000)(disch:=first|omega|(simp only[Z3];omega)|(simp;done)|assumption|decide|(apply not_not_intro;assumption))only[ZB])
 exact hQ _
end Go.AM.Cap
