import Derived.Test.YtjchglndancedaaGreatDoorCgJ
import Derived.Test.YtjchglndancedaaGreatDoorAmOpenF
set_option linter.all false
/- conf, the document: lines, one behind the other -/
set_option maxHeartbeats 16000000
namespace Go.AM.Cap
open Go.AM Go.Proofs
variable {H0 H:Heap} {R:Nat} {v:RV} {st:RSt} {L:List Thing}
theorem zbxy {ws:List ByteArray} {k:Kw} {st':RSt} (h:zi1 st ws k=some st'):st'.once=st.once∨(k = .single∧st'.once=st.once ++ [z8 ws 0]):=by
 cases k with
 | single =>
  obtain⟨l,rfl⟩:=z86 h
  refine .inr ⟨rfl,?_⟩
  unfold zgr
  by_cases c1:z8 ws 0=ze2
  ·rw[if_pos c1]
  rw[if_neg c1]
  by_cases c2:z8 ws 0=zgk
  ·rw[if_pos c2]
  ·rw[if_neg c2]
 | point =>
  simp only[zi1,zir] at h
  by_cases c:ws.length=2∧zcg (z8 ws 1)≠0
  ·rw[if_pos c] at h;cases h;exact .inl rfl
  ·rw[if_neg c] at h;cases h
 | grant =>
  simp only[zi1,zlr] at h
  cases hn:zds (ws.drop 1) 2 with
  | none=>rw[hn] at h;cases h
  | some l=>rw[hn] at h;cases h;exact .inl rfl
 | port =>
  simp only[zi1,zpu] at h
  by_cases c:ws.length=(if decide (z8 ws 0=zh0)=true then 5 else 4)∧zcg (z8 ws 3)≠0
  ·rw[if_pos c] at h
   cases hn:zds ((ws.drop 1).take 2 ++ ws.drop 4) (if decide (z8 ws 0=zh0)=true then 3 else 2) with
   | none=>rw[hn] at h;cases h
   | some l=>rw[hn] at h;cases h;exact .inl rfl
  ·rw[if_neg c] at h;cases h
 | window =>
  simp only[zi1,zj2] at h
  cases hn:zds (ws.drop 1) 3 with
  | none=>rw[hn] at h;cases h
  | some l=>rw[hn] at h;cases h;exact .inl rfl
 | engs =>
  simp only[zi1,zsy] at h
  cases hn:zds (ws.drop 1) 2 with
  | none=>rw[hn] at h;cases h
  | some l=>rw[hn] at h;cases h;exact .inl rfl
 | unit =>
  simp only[zi1,zrw] at h
  by_cases c:ws.length=1
  ·rw[if_pos c] at h;cases h;exact .inl rfl
  ·rw[if_neg c] at h;cases h
 | bind =>
  simp only[zi1,zh1] at h
  by_cases c:ws.length=3∧st.sy.uns≠[]∧zd0 (z8 ws 1)≠0∧(zhm (z8 ws 2)).2=true
  ·rw[if_pos c] at h;cases h;exact .inl rfl
  ·rw[if_neg c] at h;cases h
 | user =>
  simp only[zi1,znh] at h
  by_cases c:ws.length=3
  ·rw[if_pos c] at h
   cases hn:ze3 (bv (z8 ws 2)) with
   | none=>rw[hn] at h;cases h
   | some r=>rw[hn] at h;cases h;exact .inl rfl
  ·rw[if_neg c] at h;cases h
 | role =>
  simp only[zi1,zgw] at h
  by_cases c:ws.length=3∧st.us≠[]∧zcc (z8 ws 2)≠0∧(zhm (z8 ws 1)).2=true
  ·rw[if_pos c] at h;cases h;exact .inl rfl
  ·rw[if_neg c] at h;cases h
theorem zbu6 {s:ByteArray} {st':RSt} (h:zbv8 st) (hd:zi6 st s = .ok st'):zbv8 st':=by
 unfold zi6 at hd
 by_cases c1:s.size=0∨(bv s).headD 0=35#8
 ·rw[if_pos c1] at hd;cases hd;exact h
 rw[if_neg c1] at hd
 simp only at hd
 cases hk:zom (z8 (zbd 32 s) 0) with
 | none=>rw[hk] at hd;cases hd
 | some k =>
  rw[hk] at hd
  simp only at hd
  by_cases c2:zsx (zbd 32 s) zeq=true
  ·rw[if_pos c2] at hd;cases hd
  rw[if_neg c2] at hd
  cases hm:zi1 st (zbd 32 s) k with
  | none=>rw[hm] at hd;cases hd
  | some st2 =>
   rw[hm] at hd
   simp only at hd
   by_cases c3:zsx st.once (z8 (zbd 32 s) 0)=true
   ·rw[if_pos c3] at hd;cases hd
   rw[if_neg c3] at hd;cases hd
   rcases zbxy hm with e | ⟨rfl,e⟩
   ·intro x hx;rw[e] at hx;exact h x hx
   ·intro x hx
    rw[e] at hx
    rcases List.mem_append.1 hx with q | q
    ·exact h x q
    ·simp only[List.mem_cons,List.not_mem_nil,or_false] at q
     subst q;exact hk
theorem zb0v {lv:V} {ls:List ByteArray} (hl:Sl H lv ls) (hn:ls.length≤100000) (hz:∀ s∈ls,s.size≤100000) (Q:V→Heap→Prop)
  (hok:∀ st,zh9 zug 0 ls = .ok st→∀ v R H' L,ReadAt H H' R v st L→Sm st ls.length→Q (.tuple #[.agg ((v.cells st).take 9).toArray,i64 0,i64 0]) H')
  (hbad:∀ n e,zh9 zug 0 ls = .error (n,e)→e≠0→∀ H',Keeps [] H H'→Q (.tuple #[.agg z9.toArray,i64 n,i64 e]) H'):wp (zv6 [lv]) Q H:=by
 show wp (z3q lv) Q H
 have hlen:=hl.len
 have s1:Hp H (H.push (some (.cells true z9))) [cel H.next z9]:=(Hp.start H).newc _
 have eb:build [(Value.slice none 0 0:V),Value.slice none 0 0,Value.slice none 0 0,Value.int .i64 0,Value.slice none 0 0,Value.slice none 0 0,Value.int .i64 0,Value.slice none 0 0,Value.int .i64 0,Value.slice none 0 0] []=some (.agg [.slice none 0 0,.slice none 0 0,.slice none 0 0,i64 0,.slice none 0 0,.slice none 0 0,i64 0,.slice none 0 0,i64 0,.slice none 0 0].toArray):=rfl
 have ez:build [(Value.slice none 0 0:V),Value.slice none 0 0,Value.slice none 0 0,Value.int .i64 0,Value.slice none 0 0,Value.slice none 0 0,Value.int .i64 0,Value.slice none 0 0,Value.int .i64 0] []=some (.agg z9.toArray):=rfl
 unfold z3q
 rw[z6,z6]
 refine (zo5 (by decide)).mpr ?_
 change wp _ _ (H.push (some (.cells true z9)))
 generalize hP:H.next=P at *
 generalize H.push (some (.cells true z9))=H1 at *
 rw[z6,eb,zvk,zqn,z6]
 refine (zby rfl).mpr ?_
 have r1:=zbfz s1
 generalize hR:H1.next=R at *
 generalize H1.push (some (.cells true [.slice none 0 0,.slice none 0 0,.slice none 0 0,i64 0,.slice none 0 0,.slice none 0 0,i64 0,.slice none 0 0,i64 0,(.slice none 0 0:V)]))=H2 at *
 (try simp(maxSteps:=1000000)(disch:=first|omega|(simp only[Z3];omega)|(simp;done)|assumption|decide|(apply not_not_intro;assumption))only[ZB])
 refine zbt ls.length (by omega) (fun j vs H'=>∃ v st,vs=[lv,ptr P 0,ptr R 0,i64 j]∧ReadAt H H' R v st [cel P z9]∧Sm st j∧zbv8 st∧zh9 st j (ls.drop j)=zh9 zug 0 ls) ⟨rv0,zug,rfl,r1,sm0,fun x hx=>absurd hx (List.not_mem_nil (a:=x)),rfl⟩ ?_
 rintro j vs H4 hj ⟨v,st,rfl,r4,sm4,on4,hrd⟩
 have gP:=r4.rest.get (i:=0) rfl
 have nP:=Heap.get_lt gP
 have hlen4:=(hl.keep0 r4.hp.keeps).len
 by_cases hlt:j < ls.length
 ·rw[z2h ls j zeq hlt,zh9] at hrd
  have hsl:=hl.keep0 r4.hp.keeps
  obtain⟨a1,c1⟩:=zwd hsl hlt
  (try simp(maxSteps:=1000000)(disch:=first|omega|(simp only[Z3];omega)|(simp;done)|assumption|decide|(apply not_not_intro;assumption))only[ZA,zo,zi,zf,zg,zh,zd,z00,zbbv,hlen,a1,c1])
  refine zb0u r4 (sm4.mono (by omega)) on4 (z8 ls j) (hz _ (z38 hlt)) _ (fun st' hst v' H5 r5=>?_) fun e he hne H5 s5=>?_
  ·rw[hst] at hrd
   (try simp(maxSteps:=1000000)(disch:=first|omega|(simp only[Z3];omega)|(simp;done)|assumption|decide|(apply not_not_intro;assumption))only[ZB,zbbu])
   exact⟨hlt,v',st',rfl,r5,zbkm sm4 hst,zbu6 on4 hst,hrd⟩
  ·rw[he] at hrd
   simp only at hrd
   have e1:decide (e≠0)=true:=decide_eq_true hne
   have g5:=s5.get (i:=0) rfl
   have n5:=Heap.get_lt g5
   have h9:z9.length=9:=rfl
   have w9:=fun Q=>zb3 (n:=9) (Q:=Q) g5 h9 h9 (by decide:z9.all Value.isOne=true)
   (try simp(maxSteps:=1000000)(disch:=first|omega|(simp only[Z3];omega)|(simp;done)|assumption|decide|(apply not_not_intro;assumption))only[ZA,zo,zi,zf,zg,zh,zd,e1,ez,w9])
   have gz:=Heap.get_set_eq (x:=some (.cells true z9)) n5
   have d9:=fun Q=>z7 (n:=9) (Q:=Q) gz h9
   have q:=hbad (j + 1) e hrd.symm hne (H5.set P (some (.cells true z9))) (s5.keeps.trans (Keeps.set (S:=[P]) (by simp)) (fun b hb hm=>by simp at hm;omega))
   push_cast at q
   (try simp(maxSteps:=1000000)(disch:=first|omega|(simp only[Z3];omega)|(simp;done)|assumption|decide|(apply not_not_intro;assumption))only[ZA,zp,zo,zm,zi,zf,zg,zh,zd,d9])
   exact q
 ·have:j=ls.length:=by omega
  subst this
  rw[List.drop_length,zh9] at hrd
  have g4:=r4.get
  have h9:((v.cells st).take 9).length=9:=rfl
  have hone:((v.cells st).take 9).all Value.isOne=true:=by
   have o1:=(r4.hp.own (i:=1) rfl).isOne
   have o2:=(r4.hp.own (i:=2) rfl).isOne
   have o3:=(r4.hp.own (i:=3) rfl).isOne
   have o4:=(r4.hp.own (i:=4) rfl).isOne
   have o5:=(r4.hp.own (i:=5) rfl).isOne
   have o6:=(r4.hp.own (i:=6) rfl).isOne
   simp[RV.cells,o1,o2,o3,o4,o5,o6]
  have d4:∀ Q,wp (ldn 9 (ptr R 0)) Q H4↔Q (.agg ((v.cells st).take 9).toArray) H4:=fun Q=>by
   rw[zbh,g4,zpc (by show 0 + 9≤10;omega)]
   rfl
  have w9:=fun Q=>zb3 (n:=9) (Q:=Q) gP (rfl:z9.length=9) h9 hone
  (try simp(maxSteps:=1000000)(disch:=first|omega|(simp only[Z3];omega)|(simp;done)|assumption|decide|(apply not_not_intro;assumption))only[ZA,zo,zm,zi,zf,zg,zh,zd,z00,zbbw,hlen,d4,w9])
  have gz:=Heap.get_set_eq (x:=some (.cells true ((v.cells st).take 9))) nP
  have d9:=fun Q=>z7 (n:=9) (Q:=Q) gz h9
  have s5:Hp H _ _:=r4.hp.set (i:=((unT v.uns).length + ((usT v.uz).length + 0)) + 8) (d:=P) (cs:=z9) (by
   show (unT v.uns ++ (usT v.uz ++ [cel P z9]))[(unT v.uns).length + ((usT v.uz).length + 0)]? = _
   rw[zuh,zuh];rfl) ((v.cells st).take 9)
  have q:=hok st hrd.symm v R (H4.set P (some (.cells true ((v.cells st).take 9)))) [cel P ((v.cells st).take 9)] ⟨by
   have e:(RV.things R v st [cel P z9]).set (((unT v.uns).length + ((usT v.uz).length + 0)) + 8) (cel P ((v.cells st).take 9))=RV.things R v st [cel P ((v.cells st).take 9)]:=by
    have:∀ k:Nat,(RV.things R v st [cel P z9]).set (k + 8) (cel P ((v.cells st).take 9))=cel R (v.cells st) :: own v.pv st.sy.pts :: own v.gv st.sy.grs :: own v.qv st.sy.prs :: own v.wv st.sy.wins :: own v.uv v.uns :: own v.sv v.uz :: own v.ov st.once :: ((unT v.uns ++ (usT v.uz ++ [cel P z9])).set k (cel P ((v.cells st).take 9))):=fun k=>rfl
    rw[this,z2m,z2m]
    rfl
   rw[e] at s5
   exact s5,r4.uns,r4.us⟩ sm4
  (try simp(maxSteps:=1000000)(disch:=first|omega|(simp only[Z3];omega)|(simp;done)|assumption|decide|(apply not_not_intro;assumption))only[ZA,zp,zo,zm,zi,zf,zg,zh,zd,d9])
  exact q
end Go.AM.Cap

/- conf, the document: the windows of a partition -/
set_option maxHeartbeats 16000000
namespace Go.AM.Cap
open Go.AM Go.Proofs
variable {H0 H:Heap}
theorem zbta (ws:List Win) (p:Int):(ws.filter fun w=>decide (w.part=p)).length=zh8 ws p:=by
 rw[zh8,List.countP_eq_length_filter]
theorem zb57 {wv:V} {ws:List Win} (frame:Int) (h:Sl H wv ws) (hl:ws.length≤1000000) (p:Int) (Q:V→Heap→Prop) (hQ:∀ w H',Keeps [] H H'→zt w=some (i64 (zh8 ws p))→Q w H'):wp (z3s [.agg [i64 frame,wv].toArray,i64 p]) Q H:=by
 show wp (zbde (.agg [i64 frame,wv].toArray) (i64 p)) Q H
 have ho:([i64 frame,wv]:List V).all Value.isOne=true:=by simp[h.isOne]
 have s1:Hp H (H.push (some (.cells true [i64 frame,wv]))) [cel H.next [i64 frame,wv]]:=(Hp.start H).newc _
 unfold zbde
 rw[z6,z6]
 refine (zby ho).mpr ?_
 generalize H.next=P at *
 generalize H.push (some (.cells true [i64 frame,wv]))=H1 at *
 (try simp(maxSteps:=1000000)(disch:=first|omega|(simp only[Z3];omega)|(simp;done)|assumption|decide|(apply not_not_intro;assumption))only[ZB])
 refine zbt ws.length (by omega) (fun j vs H'=>∃ w,vs=[i64 p,ptr P 0,w,i64 j]∧Hp H H' [own w ((ws.take j).filter fun w=>decide (w.part=p)),cel P [i64 frame,wv]]) ⟨.slice none 0 0,rfl,s1.nilo (α:=Win)⟩ ?_
 rintro j vs H2 hj ⟨w,rfl,s2⟩
 have g2:=s2.get (i:=1) rfl
 have h2:=h.keep0 s2.keeps
 have hlen:=h2.len
 have hfl:((ws.take j).filter fun w=>decide (w.part=p)).length≤j:=Nat.le_trans (List.length_filter_le _ _) (by rw[List.length_take];omega)
 by_cases hlt:j < ws.length
 case neg =>
  have:j=ws.length:=by omega
  subst this
  rw[List.take_length] at s2
  have ol:=(s2.own (i:=0) rfl).len
  rw[zbta] at ol
  (try simp(maxSteps:=1000000)(disch:=first|omega|(simp only[Z3];omega)|(simp;done)|assumption|decide|(apply not_not_intro;assumption))only[ZB,zzl,zbh0,g2,hlen])
  exact hQ _ _ s2.keeps ol
 have a1:=h2.addr' (n:=3) rfl (k := .i64) (i:=(j:Int)) (by omega) (by omega)
 rw[Int.toNat_natCast] at a1
 have c0:=h2.cell' (n:=3) rfl (off:=0) hlt (by omega) default
 rw[zbj,Nat.add_zero] at c0
 have e0:(Flat.enc (ws.getD j default))[0]? = some (i64 (ws.getD j default).part):=rfl
 rw[e0] at c0
 have d1:=fun Q=>h2.ldn' (Q:=Q) (n:=3) rfl hlt default
 have htk:ws.take (j + 1)=ws.take j ++ [ws.getD j default]:=by
  rw[List.getD_eq_getElem?_getD,List.getElem?_eq_getElem hlt];exact List.take_succ_eq_append_getElem hlt
 by_cases c:(ws.getD j default).part=p
 ·have e1:decide ((ws.getD j default).part=p)=true:=decide_eq_true c
  have hf:zbn (rep 1 [Value.int .i64 0,Value.int .i64 0,Value.int .i64 0]) [(0,3,.agg (Flat.enc (ws.getD j default)).toArray)]=some (zbm ([ws.getD j default]:List Win)):=by
   show zbn _ [(0,3,.agg ([i64 (ws.getD j default).part,i64 (ws.getD j default).start,i64 (ws.getD j default).len]:List V).toArray)]=_
   rw[zi (n:=3) rfl rfl (by decide),zba]
   rfl
  (try simp(maxSteps:=1000000)(disch:=first|omega|(simp only[Z3];omega)|(simp;done)|assumption|decide|(apply not_not_intro;assumption))only[ZA,zp,zo,zm,zf,zg,zh,zd,zzl,z7s,g2,hlen,a1,c0,e1,d1])
  refine zf5 (α:=Win) (n:=3) (ys:=[ws.getD j default]) s2 (i:=0) rfl rfl (by decide) hf rfl (by omega) (by omega) fun w' H3 s3=>?_
  simp only[List.set_cons_zero] at s3
  (try simp(maxSteps:=1000000)(disch:=first|omega|(simp only[Z3];omega)|(simp;done)|assumption|decide|(apply not_not_intro;assumption))only[ZB,z7r])
  refine⟨hlt,w',rfl,?_⟩
  rw[htk,List.filter_append,List.filter_cons,e1]
  exact s3
 ·have e1:decide ((ws.getD j default).part=p)=false:=decide_eq_false c
  (try simp(maxSteps:=1000000)(disch:=first|omega|(simp only[Z3];omega)|(simp;done)|assumption|decide|(apply not_not_intro;assumption))only[ZA,zp,zo,zm,zi,zf,zg,zh,zd,zzl,z7s,z7r,g2,hlen,a1,c0,e1])
  refine⟨hlt,w,rfl,?_⟩
  rw[htk,List.filter_append,List.filter_cons,e1]
  simpa using s2
end Go.AM.Cap

/- conf, the document: the plan's Check -/
set_option maxHeartbeats 16000000
namespace Go.AM.Cap
open Go.AM Go.Proofs
theorem zb0w {H:Heap} {wv:V} {ws:List Win} (frame n:Int) (h:Sl H wv ws) (hl:ws.length≤1000000) (Q:V→Heap→Prop) (hQ:∀ a H',Keeps [] H H'→Q (.tuple #[i64 a,i64 (zvi frame ws n)]) H'):wp (zte [.agg [i64 frame,wv].toArray,i64 n]) Q H:=by
 show wp (zga (.agg [i64 frame,wv].toArray) (i64 n)) Q H
 have ho:([i64 frame,wv]:List V).all Value.isOne=true:=by simp[h.isOne]
 have k1:Keeps [] H (H.push (some (.cells true [i64 frame,wv]))):=Keeps.push _ _ _
 have g1:(H.push (some (.cells true [i64 frame,wv]))).get H.next=some (.cells true [i64 frame,wv]):=Heap.get_push_self _ _
 by_cases c1:n < 1∨n > 8
 ·have q:=hQ (-1) _ k1
  rw[zvi,if_pos c1] at q
  by_cases c:n < 1
  ·(try simp(maxSteps:=1000000)(disch:=first|omega|(simp only[Z3];omega)|(simp;done)|assumption|decide|(apply not_not_intro;assumption))only[ZB,zga,h.len])
   exact q
  ·(try simp(maxSteps:=1000000)(disch:=first|omega|(simp only[Z3];omega)|(simp;done)|assumption|decide|(apply not_not_intro;assumption))only[ZB,zga,h.len])
   exact q
 by_cases c2:frame < 1∨frame > 65536∨ws.length < 1∨ws.length > 32
 ·have q:=hQ (-1) _ k1
  rw[zvi,if_neg c1,if_pos c2] at q
  by_cases d1:frame < 1
  ·(try simp(maxSteps:=1000000)(disch:=first|omega|(simp only[Z3];omega)|(simp;done)|assumption|decide|(apply not_not_intro;assumption))only[ZB,zga,zif,h.len])
   exact q
  by_cases d2:frame > 65536
  ·(try simp(maxSteps:=1000000)(disch:=first|omega|(simp only[Z3];omega)|(simp;done)|assumption|decide|(apply not_not_intro;assumption))only[ZB,zga,zif,h.len])
   exact q
  by_cases d3:ws.length < 1
  ·(try simp(maxSteps:=1000000)(disch:=first|omega|(simp only[Z3];omega)|(simp;done)|assumption|decide|(apply not_not_intro;assumption))only[ZB,zga,zif,h.len])
   exact q
  ·(try simp(maxSteps:=1000000)(disch:=first|omega|(simp only[Z3];omega)|(simp;done)|assumption|decide|(apply not_not_intro;assumption))only[ZB,zga,zif,h.len])
   exact q
 (try simp(maxSteps:=1000000)(disch:=first|omega|(simp only[Z3];omega)|(simp;done)|assumption|decide|(apply not_not_intro;assumption))only[ZB,zga,zif,h.len,z7y])
 generalize H.push (some (.cells true [i64 frame,wv]))=H1 at *
 have hp:H.next < H1.next:=Heap.get_lt g1
 have hE:zvi frame ws n=if zo9 frame n 0 ws=true then 210 else if zh8 ws (-1) > 1 then 210 else if ∃ p∈List.range n.toNat,zh8 ws (p:Int)=0 then 210 else 0:=by rw[zvi,if_neg c1,if_neg c2]
 refine zbt ws.length (by omega) (fun j vs H'=>∃ e:Int,vs=[i64 n,ptr H.next 0,i64 e,i64 j]∧0≤e∧e≤frame∧Keeps [] H1 H'∧zo9 frame n e (ws.drop j)=zo9 frame n 0 ws) ⟨0,rfl,by omega,by omega,Keeps.refl _ _,rfl⟩ ?_
 rintro j vs H2 hj ⟨e,rfl,he0,he1,k2,hb⟩
 have g2:=k2.get g1 (by simp)
 have k02:=k1.trans k2 (fun _ _ h=>h)
 have h2:=h.keep0 k02
 have hlen:=h2.len
 by_cases hlt:j < ws.length
 ·rw[z2h ws j default hlt,zo9] at hb
  have a1:=h2.addr' (n:=3) rfl (k := .i64) (i:=j) (by omega) (by omega)
  rw[Int.toNat_natCast] at a1
  have d1:=fun Q=>h2.ldn' (Q:=Q) (n:=3) rfl hlt default
  generalize ws.getD j default=x at *
  obtain⟨wp_,ws_,wl_⟩:=x
  have kp:Keeps [] H1 (H2.push (some (.cells true [i64 wp_,i64 ws_,i64 wl_]))):=zbw k2
  have gp:(H2.push (some (.cells true [i64 wp_,i64 ws_,i64 wl_]))).get H.next=some (.cells true [i64 frame,wv]):=by rw[Heap.get_push_lt (by have:=Heap.get_lt g2;omega)];exact g2
  have gx:(H2.push (some (.cells true [i64 wp_,i64 ws_,i64 wl_]))).get H2.next=some (.cells true [i64 wp_,i64 ws_,i64 wl_]):=Heap.get_push_self _ _
  have hne:H.next≠H2.next:=by have:=Heap.get_lt g2;omega
  by_cases cb:z30 frame n e ⟨wp_,ws_,wl_⟩
  ·rw[if_pos cb] at hb
   have q:=hQ (j:Int) _ (k1.trans kp (fun _ _ h=>h))
   rw[hE,if_pos hb.symm] at q
   simp only[z30] at cb
   by_cases e1:wp_ < -1
   ·(try simp(maxSteps:=1000000)(disch:=first|omega|(simp only[Z3];omega)|(simp;done)|assumption|decide|(apply not_not_intro;assumption))only[ZA,zp,zo,zm,zi,zf,zg,zh,zd,ze1,zgj,g2,hlen,a1,d1,zh4])
    exact q
   by_cases e2:wp_≥n
   ·(try simp(maxSteps:=1000000)(disch:=first|omega|(simp only[Z3];omega)|(simp;done)|assumption|decide|(apply not_not_intro;assumption))only[ZA,zp,zo,zm,zi,zf,zg,zh,zd,ze1,zgj,g2,hlen,a1,d1,zh4])
    exact q
   by_cases e3:wl_ < 1
   ·(try simp(maxSteps:=1000000)(disch:=first|omega|(simp only[Z3];omega)|(simp;done)|assumption|decide|(apply not_not_intro;assumption))only[ZA,zp,zo,zm,zi,zf,zg,zh,zd,ze1,zgj,g2,hlen,a1,d1,zh4])
    exact q
   by_cases e4:ws_ < e
   ·(try simp(maxSteps:=1000000)(disch:=first|omega|(simp only[Z3];omega)|(simp;done)|assumption|decide|(apply not_not_intro;assumption))only[ZA,zp,zo,zm,zi,zf,zg,zh,zd,ze1,zgj,g2,hlen,a1,d1,zh4])
    exact q
   by_cases e5:ws_ > frame
   ·(try simp(maxSteps:=1000000)(disch:=first|omega|(simp only[Z3];omega)|(simp;done)|assumption|decide|(apply not_not_intro;assumption))only[ZA,zp,zo,zm,zi,zf,zg,zh,zd,ze1,zgj,hlen,a1,d1,zh4,gp,gx,g2])
    exact q
   ·have e6:wl_ > frame - ws_:=by omega
    (try simp(maxSteps:=1000000)(disch:=first|omega|(simp only[Z3];omega)|(simp;done)|assumption|decide|(apply not_not_intro;assumption))only[ZA,zp,zo,zm,zi,zf,zg,zh,zd,ze1,zgj,hlen,a1,d1,zh4,gp,gx,g2])
    exact q
  ·rw[if_neg cb] at hb
   simp only[z30] at cb
   (try simp(maxSteps:=1000000)(disch:=first|omega|(simp only[Z3];omega)|(simp;done)|assumption|decide|(apply not_not_intro;assumption))only[ZA,zp,zo,zm,zi,zf,zg,zh,zd,ze1,zgj,hlen,a1,d1,zh4,z7t,z7u,gp,gx,g2])
   exact⟨hlt,ws_ + wl_,rfl,by omega,by omega,kp,hb⟩
 have:j=ws.length:=by omega
 subst this
 rw[List.drop_length,zo9] at hb
 rw[← hb] at hE
 have hl2:([i64 frame,wv]:List V).length=2:=rfl
 have hmn:∀ p:Int,zh8 ws p≤32:=fun p=>by
  have:zh8 ws p≤ws.length:=by rw[zh8];exact List.countP_le_length
  omega
 (try simp(maxSteps:=1000000)(disch:=first|omega|(simp only[Z3];omega)|(simp;done)|assumption|decide|(apply not_not_intro;assumption))only[ZB,ze1,z7x,g2,hlen])
 refine zbt (n.toNat + 1) (by omega) (fun j vs H'=>vs=[i64 n,ptr H.next 0,i64 ((j:Int) - 1)]∧Keeps [] H2 H'∧(1≤j→¬ zh8 ws (-1) > 1)∧∀ p,p + 1 < j→zh8 ws (p:Int)≠0) ⟨rfl,Keeps.refl _ _,by omega,by omega⟩ ?_
 rintro i vs H4 hi ⟨rfl,k4,hm1,hi2⟩
 have g4:=k4.get g2 (by simp)
 have k04:=k02.trans k4 (fun _ _ h=>h)
 by_cases hlt2:i < n.toNat + 1
 ·have d4:=fun Q=>z7 (Q:=Q) g4 hl2
  have e0:decide ((i:Int) - 1 < n)=true:=decide_eq_true (by omega)
  (try simp(maxSteps:=1000000)(disch:=first|omega|(simp only[Z3];omega)|(simp;done)|assumption|decide|(apply not_not_intro;assumption))only[ZA,zp,zo,zm,zi,zf,zg,zh,zd,zyd,z7v,e0,d4])
  refine zb57 frame (h.keep0 k04) hl ((i:Int) - 1) _ fun w H5 k5 hw=>?_
  have k05:=k04.trans k5 (fun _ _ h=>h)
  have hmm:=hmn ((i:Int) - 1)
  by_cases hi0:i=0
  ·subst hi0
   have em:((0:Nat):Int) - 1 = -1:=rfl
   rw[em] at hw hmm
   by_cases cm:zh8 ws (-1) > 1
   ·have q:=hQ (-1) _ k05
    rw[hE,if_neg (by simp),if_pos cm] at q
    have f2:decide ((zh8 ws (-1):Int) > 1)=true:=decide_eq_true (by omega)
    (try simp(maxSteps:=1000000)(disch:=first|omega|(simp only[Z3];omega)|(simp;done)|assumption|decide|(apply not_not_intro;assumption))only[ZB,em,hw,f2])
    exact q
   ·have f2:decide ((zh8 ws (-1):Int) > 1)=false:=decide_eq_false (by omega)
    (try simp(maxSteps:=1000000)(disch:=first|omega|(simp only[Z3];omega)|(simp;done)|assumption|decide|(apply not_not_intro;assumption))only[ZB,em,hw,f2,zyc])
    exact⟨by omega,rfl,k4.trans k5 (fun _ _ h=>h),fun _=>cm,by omega⟩
  ·have f0:decide ((i:Int) - 1≥0)=true:=decide_eq_true (by omega)
   have f3:decide ((i:Int) - 1 < 0)=false:=decide_eq_false (by omega)
   have em:((i:Int) - 1)=((i - 1:Nat):Int):=by omega
   by_cases cz:zh8 ws ((i:Int) - 1)=0
   ·have q:=hQ (-1) _ k05
    rw[hE,if_neg (by simp),if_neg (hm1 (by omega)),if_pos ⟨i - 1,List.mem_range.2 (by omega),by rw[← em];exact cz⟩] at q
    have f2:decide ((zh8 ws ((i:Int) - 1):Int)=0)=true:=decide_eq_true (by omega)
    (try simp(maxSteps:=1000000)(disch:=first|omega|(simp only[Z3];omega)|(simp;done)|assumption|decide|(apply not_not_intro;assumption))only[ZB,hw,f0,f2])
    exact q
   ·have f2:decide ((zh8 ws ((i:Int) - 1):Int)=0)=false:=decide_eq_false (by omega)
    (try simp(maxSteps:=1000000)(disch:=first|omega|(simp only[Z3];omega)|(simp;done)|assumption|decide|(apply not_not_intro;assumption))only[ZB,hw,f0,f2,f3,zyc])
    refine⟨hlt2,?_,k4.trans k5 (fun _ _ h=>h),fun _=>hm1 (by omega),fun p hp2=>?_⟩
    ·rw[show (((i + 1:Nat):Int) - 1)=(i:Int) - 1 + 1 by omega]
    ·by_cases hpi:p + 1 < i
     ·exact hi2 p hpi
     ·have:p=i - 1:=by omega
      subst this
      rw[← em];exact cz
 ·have:i=n.toNat + 1:=by omega
  subst this
  have q:=hQ 0 _ k04
  rw[hE,if_neg (by simp),if_neg (hm1 (by omega)),if_neg (by rintro⟨p,hp1,hp2⟩;exact hi2 p (by have:=List.mem_range.1 hp1;omega) hp2)] at q
  have e0:decide ((((n.toNat + 1:Nat):Int) - 1) < n)=false:=decide_eq_false (by omega)
  (try simp(maxSteps:=1000000)(disch:=first|omega|(simp only[Z3];omega)|(simp;done)|assumption|decide|(apply not_not_intro;assumption))only[ZB,zyd,z7w,e0])
  exact q
end Go.AM.Cap
