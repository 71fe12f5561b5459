import Derived.Test.YtjchglndancedaaGreatDoorCfQ
import Derived.Test.YtjchglndancedaaGreatDoorAmIn
set_option linter.all false
/- conf: roles, ports -/
set_option maxHeartbeats 8000000
namespace Go.AM.Cap
open Go.AM Go.Proofs
variable {H0 H:Heap} {R:Nat} {v:RV} {st:RSt} {L:List Thing}
theorem zbd9 {α:Type} {A X:List α} {k:Nat}:(A ++ X)[A.length + k]? = X[k]? := by
 rw[List.getElem?_append_right (by omega),Nat.add_sub_cancel_left]
theorem zbj3 {α:Type} {A X:List α} {k:Nat} {a:α}:(A ++ X).set (A.length + k) a=A ++ X.set k a:=by
 rw[List.set_append_right _ _ (by omega),Nat.add_sub_cancel_left]
theorem zb22 {G:List V→M V} {wv:V} {ws:List ByteArray} (hT:Tabs H0) (h:ReadAt H0 H R v st (view wv ws :: L)) (hs:Sm st 1000000) (hwz:∀ w∈ws,w.size≤1000000):zm4 H0 H R (view wv ws :: L) (zs7 st ws) (zfr G zc3 [ptr R 0,wv]):=by
 intro Q hok hbad
 show wp (zho G zc3 (ptr R 0) wv) Q H
 have hlen:=h.words.len
 have hul:st.us.length=v.uz.length:=by rw[← h.us,List.length_map]
 by_cases c1:ws.length=3
 case neg =>
  have e:zs7 st ws=none:=by rw[zs7,if_neg (fun q=>c1 q.1)]
  have e1:decide ((ws.length:Int)≠3)=true:=decide_eq_true (by omega)
  (try simp (maxSteps:=999999) (disch:=try exact ZD) only[ZB,zho,hlen,e1])
  exact hbad e _ h.rest
 have e1:decide ((ws.length:Int)≠3)=false:=decide_eq_false (by omega)
 have g:=h.get
 have hout:=(h.hp.own (i:=6) rfl)
 have hol:=hout.len
 unfold RV.cells at g
 by_cases c2:v.uz.length=0
 ·have e:zs7 st ws=none:=by rw[zs7,if_neg (fun q=>q.2.1 (List.eq_nil_of_length_eq_zero (by omega)))]
  have e2:decide ((v.uz.length:Int)=0)=true:=decide_eq_true (by omega)
  (try simp (maxSteps:=999999) (disch:=try exact ZD) only[ZB,zho,hlen,e1,g,hol,e2])
  exact hbad e _ h.rest
 have e2:decide ((v.uz.length:Int)=0)=false:=decide_eq_false (by omega)
 obtain⟨a1,b1⟩:=wd h.words (i:=1) (n:=1) (by omega) rfl
 (try simp (maxSteps:=999999) (disch:=try exact ZD) only[ZA,zo,zm,zi,zj,zg,ze,zho,hlen,e1,g,hol,e2,zus,a1,b1])
 refine zbfq (wAt ws 1) (hwz _ (zbd8 (by omega))) _ fun H1 k1=>?_
 have r1:=h.keep0 k1
 generalize hnum:zz3 (wAt ws 1)=nm at *
 obtain⟨n,ok⟩:=nm
 obtain⟨a2,b2⟩:=wd r1.words (i:=2) (n:=2) (by omega) rfl
 have e3:subA 5 1 (ptr gid_conf_levels 0) (some (Value.int .i64 1)) none=some (slc gid_conf_levels 1 0 4 4):=zbsb (by decide)
 (try simp (maxSteps:=999999) (disch:=try exact ZD) only[ZA,zo,zm,zi,zj,zg,ze,e3,a2,b2])
 refine z78 (l:=[zbgs,kRun,z7f,z7g]) (zb0b (hT.keep0 r1.hp.keeps).levels) (by decide) (wAt ws 2) _ ?_
 have hli:=zbxv (wAt ws 2)
 have hlr:=zbo5 (wAt ws 2)
 have e4:zu .add (i64 (zkt (zhf (fun x=>decide (wAt ws 2=x)) [zbgs,kRun,z7f,z7g]))) (Value.int .i64 1)=some (i64 (zhs (wAt ws 2))):=by
  rw[← hli] at hlr ⊢
  show some (Value.int .i64 (IntKind.wrap .i64 _))=_
  rw[i64_in (by omega) (by omega)]
 have g2:=r1.get
 unfold RV.cells at g2
 obtain⟨k,hk⟩:∃ k,v.uz.length=k + 1:=⟨v.uz.length - 1,by omega⟩
 have hkl:k < v.uz.length:=by omega
 have e5:zu .sub (i64 (v.uz.length:Int)) (Value.int .i64 1)=some (i64 (k:Int)):=by
  show some (Value.int .i64 (IntKind.wrap .i64 ((v.uz.length:Int) - 1)))=_
  have hle:=hs.us
  rw[show ((v.uz.length:Int) - 1)=k by omega,i64_in (by omega) (by omega)]
 have hout1:=(r1.hp.own (i:=6) rfl)
 have a3:=hout1.sl.addr' (n:=3) rfl (k := .i64) (i:=(k:Int)) (by omega) (by omega)
 rw[Int.toNat_natCast] at a3
 have c6:=hout1.sl.cell' (n:=3) rfl (off:=2) hkl (by omega) default
 rw[zbd] at c6
 have e7:(Flat.enc (v.uz.getD k default))[2]? = some (v.uz.getD k default).rs.v:=rfl
 rw[e7] at c6
 have hmem:(v.uz.getD k default).p∈st.us:=by rw[← h.us];exact List.mem_map_of_mem (zbh hkl)
 have hrol:=hs.rol _ hmem
 simp only[Us.p] at hrol
 (try simp (maxSteps:=999999) (disch:=try exact ZD) only[ZA,zo,zm,zi,zj,zg,ze,e4,g2,hol,e5,a3,c6])
 have hf:zbu (rep 1 [Value.int .i64 0,Value.int .i64 0]) [(0,2,.agg #[i64 n,i64 (zhs (wAt ws 2))])]=some (zbj ([⟨n,zhs (wAt ws 2)⟩]:List Rl)):=by
  show zbu _ [(0,2,.agg ([i64 n,i64 (zhs (wAt ws 2))]:List V).toArray)]=_
  rw[zk (n:=2) rfl rfl (by decide),zb1]
  rfl
 have hgi:(unT v.uns ++ (usT v.uz ++ (view wv ws :: L)))[(unT v.uns).length + k]? = some (own (v.uz.getD k default).rs.v (v.uz.getD k default).rs.xs):=by rw[zbd9];exact zbvr hkl
 have s3:Hp H0 H1 (cel R (v.cells st) :: own v.pv st.sy.pts :: own v.gv st.sy.grs :: own v.qv st.sy.prs :: own v.wv st.sy.wins :: own v.uv v.uns :: own v.sv v.uz :: own v.ov st.once :: (unT v.uns ++ (usT v.uz ++ (view wv ws :: L)))):=r1.hp
 refine zna (α:=Rl) (n:=2) (ys:=[⟨n,zhs (wAt ws 2)⟩]) s3 (i:=(unT v.uns).length + k + 8) hgi rfl (by decide) hf rfl (by omega) (by omega) fun w2 H5 s5=>?_
 have s5':Hp H0 H5 (cel R (v.cells st) :: own v.pv st.sy.pts :: own v.gv st.sy.grs :: own v.qv st.sy.prs :: own v.wv st.sy.wins :: own v.uv v.uns :: own v.sv v.uz :: own v.ov st.once :: ((unT v.uns ++ (usT v.uz ++ (view wv ws :: L))).set ((unT v.uns).length + k) (own w2 ((v.uz.getD k default).rs.xs ++ [⟨n,zhs (wAt ws 2)⟩])))):=s5
 rw[zbj3] at s5'
 have hsl:k < (usT v.uz ++ (view wv ws :: L)).length:=by
  rw[List.length_append,usT,List.length_map];omega
 have ow2:w2.isOne=true:=(s5'.own (i:=(unT v.uns).length + k + 8) (by
  show (unT v.uns ++ ((usT v.uz ++ (view wv ws :: L)).set k _))[(unT v.uns).length + k]? = _
  rw[zbd9,List.getElem?_set_self hsl])).isOne
 have es:(usT v.uz ++ (view wv ws :: L)).set k (own w2 ((v.uz.getD k default).rs.xs ++ [⟨n,zhs (wAt ws 2)⟩]))=_:=zbvs (⟨w2,(v.uz.getD k default).rs.xs ++ [(⟨n,zhs (wAt ws 2)⟩:Rl)],ow2⟩:In Rl) hkl
 rw[es] at s5'
 (try simp (maxSteps:=999999) (disch:=try exact ZD) only[ZA,zo,zm,zk,zi,zj,zg,ze])
 refine zbty (α:=Us) (n:=3) (idx:=6) (i:=k) (off:=2) (x':=⟨(v.uz.getD k default).name,(v.uz.getD k default).key,⟨w2,(v.uz.getD k default).rs.xs ++ [⟨n,zhs (wAt ws 2)⟩],ow2⟩⟩) (d:=default) s5' rfl rfl hkl (by decide) ow2 rfl fun H6 s6=>?_
 have hlast:st.us.getD k default=(v.uz.getD k default).p:=by
  rw[← h.us]
  exact zbmw _ _ _ _ _ hkl
 have r6:ReadAt H0 H6 R { v with uz:=v.uz.set k ⟨(v.uz.getD k default).name,(v.uz.getD k default).key,⟨w2,(v.uz.getD k default).rs.xs ++ [⟨n,zhs (wAt ws 2)⟩],ow2⟩⟩ } (addR st ⟨n,zhs (wAt ws 2)⟩) (view wv ws :: L):=by
  refine⟨s6,h.uns,?_⟩
  simp only[addR,hul,hk,Nat.add_sub_cancel,hlast,List.map_set,h.us]
  rfl
 cases ok with
 | false =>
  have e:zs7 st ws=none:=by rw[zs7,if_neg (by rw[hnum];exact fun q=>by cases q.2.2.2)]
  (try simp (maxSteps:=999999) (disch:=try exact ZD) only[ZB])
  exact hbad e _ r6.rest
 | true =>
  by_cases c3:zhs (wAt ws 2)=0
  ·have e:zs7 st ws=none:=by rw[zs7,if_neg (fun q=>q.2.2.1 c3)]
   have e8:decide (zhs (wAt ws 2) > 0)=false:=decide_eq_false (by omega)
   (try simp (maxSteps:=999999) (disch:=try exact ZD) only[ZB,e8])
   exact hbad e _ r6.rest
  ·have e:zs7 st ws=some (addR st ⟨n,zhs (wAt ws 2)⟩):=by
    rw[zs7,if_pos ⟨c1,fun q=>by rw[q] at hul;simp at hul;omega,c3,by rw[hnum]⟩,hnum]
   have e8:decide (zhs (wAt ws 2) > 0)=true:=decide_eq_true (by omega)
   (try simp (maxSteps:=999999) (disch:=try exact ZD) only[ZB,e8])
   exact hok _ e _ _ r6
theorem zb5w {α:Type} [Flat α] {n:Nat} (hs:Flat.size α=n) {H:Heap} {v:V} {l:List α} (h:Sl H v l) {a b:Nat} (hab:a < b) (hb:b≤l.length):∃ w,zh6 n v (some (i64 (a:Int))) (some (i64 (b:Int)))=some w∧Sl H w ((l.drop a).take (b - a)):=by
 subst hs
 rcases h with⟨rfl,rfl⟩ | ⟨bk,o,u,c,rfl,hc,hb2,hl2,hu2⟩
 ·simp at hb;omega
 ·have e1:zd1 l.length c (some (i64 (b:Int)))=some b:=by simp[zd1];omega
  have e2:zd1 0 b (some (i64 (a:Int)))=some a:=by simp[zd1];omega
  have hu3:u=Flat.size α∨u=0:=hu2.symm
  have hdl:((l.drop a).take (b - a)).length=b - a:=by rw[List.length_take,List.length_drop];omega
  refine⟨slc bk (o + a * Flat.size α) u (b - a) (c - a),?_,.inr ⟨bk,o + a * Flat.size α,u,c - a,by rw[hdl],by omega,hb2,?_,hu2⟩⟩
  ·simp only[zh6,e1,e2]
   rw[if_pos hu3]
   simp only[zts]
   rw[if_neg (by omega)]
  ·rcases hl2 with rfl | ⟨rw_,cs,hg,q1,q2⟩
   ·simp at hb;omega
   ·refine .inr ⟨rw_,cs,hg,?_,?_⟩
    ·rw[hdl]
     have:a * Flat.size α + (b - a) * Flat.size α=b * Flat.size α:=by rw[← Nat.add_mul];congr 1;omega
     have:b * Flat.size α≤l.length * Flat.size α:=Nat.mul_le_mul_right _ hb
     omega
    ·rw[hdl]
     have:(cs.drop (o + a * Flat.size α)).take ((b - a) * Flat.size α)=(((cs.drop o).take (l.length * Flat.size α)).drop (a * Flat.size α)).take ((b - a) * Flat.size α):=by
      rw[List.drop_take,List.drop_drop,List.take_take,Nat.min_eq_left]
      rw[← Nat.sub_mul]
      exact Nat.mul_le_mul_right _ (by omega)
     rw[this,q2,zbez,zbe0]
theorem zbmx {G:List V→M V} {wv:V} {ws:List ByteArray} {p:Nat} {kd ty a b c:Int} (s1:Hp H0 H (cel p [i64 kd,i64 a,i64 b,i64 ty,i64 c] :: v.things R st (view wv ws :: L))) (hu:v.uns.map Un.p=st.sy.uns) (hz:v.uz.map Us.p=st.us) (hs:Sm st 1000000) (Q:V→Heap→Prop)
  (hok:∀ v' H',ReadAt H0 H' R v' (addQ st ⟨kd,a,b,ty,c⟩) (view wv ws :: L)→Q (.bool true) H'):wp (zn9 G zc3 [ptr R 0,ptr p 0]) (fun o H'=>wp (zbk o fun vs=>ret (zbi [zd vs 0])) Q H') H:=by
 have r1:ReadAt H0 H R v st (view wv ws :: L):=⟨s1.tail,hu,hz⟩
 have g:=r1.get
 have hone:=r1.hp.own (i:=3) rfl
 have d1:=fun Q=>zbb (n:=5) (Q:=Q) (s1.get (i:=0) rfl) rfl
 unfold RV.cells at g
 (try simp (maxSteps:=999999) (disch:=try exact ZD) only[ZA,zo,zn,zm,zi,zj,zg,ze,zn9,g,d1])
 have hf:zbu (rep 1 [Value.int .i64 0,Value.int .i64 0,Value.int .i64 0,Value.int .i64 0,Value.int .i64 0]) [(0,5,.agg #[i64 kd,i64 a,i64 b,i64 ty,i64 c])]=some (zbj ([⟨kd,a,b,ty,c⟩]:List Port)):=by
  show zbu _ [(0,5,.agg ([i64 kd,i64 a,i64 b,i64 ty,i64 c]:List V).toArray)]=_
  rw[zk (n:=5) rfl rfl (by decide),zb1]
  rfl
 refine zr6 (α:=Port) (n:=5) (ys:=[⟨kd,a,b,ty,c⟩]) r1.hp (i:=3) rfl rfl (by decide) hf rfl (by have:=hs.prs;omega) (by decide) fun w2 H2 H3 k2 s2=>?_
 have g1:=k2.get r1.get (by simp)
 have ck:zie (zes (H2.get R) 2) v.qv=true:=by rw[g1];exact zi3 hone.sl
 have g2:=s2.get (i:=0) rfl
 unfold RV.cells at g2
 have n2:=Heap.get_lt g2
 have ow:=(s2.own (i:=3) rfl).isOne
 (try simp (maxSteps:=999999) (disch:=try exact ZD) only[ZB,g2])
 simp only[ow,true_and]
 have s3:=s2.set (i:=0) rfl ({ v with qv:=w2 }.cells (addQ st ⟨kd,a,b,ty,c⟩))
 unfold RV.cells at s3
 have r3:ReadAt H0 _ R { v with qv:=w2 } (addQ st ⟨kd,a,b,ty,c⟩) (view wv ws :: L):=⟨s3,r1.uns,r1.us⟩
 (try simp (maxSteps:=999999) (disch:=try exact ZD) only[ZB,ck])
 exact hok _ _ r3
theorem zbvt {G:List V→M V} {wv:V} {ws:List ByteArray} {p:Nat} (q:Bool) (kd:Int) (want many:Nat) (hkd:kd=if q then 2 else 1) (hwant:want=if q then 5 else 4) (hmany:many=if q then 3 else 2) (hq:decide (wAt ws 0=z2h)=q) (hT:Tabs H0) (s1:Hp H0 H (cel p [i64 kd,i64 0,i64 0,i64 0,i64 0] :: v.things R st (view wv ws :: L))) (hu:v.uns.map Un.p=st.sy.uns) (hz:v.uz.map Us.p=st.us) (hs:Sm st 1000000) (hwz:∀ w∈ws,w.size≤1000000) (Q:V→Heap→Prop)
  (hok:∀ st',z7h st ws=some st'→∀ v' H',ReadAt H0 H' R v' st' (view wv ws :: L)→Q (.bool true) H') (hbad:z7h st ws=none→∀ H',Hp H0 H' (view wv ws :: L)→Q (.bool false) H') :
  wp (zi2 G zc3 [ptr R 0,wv,ptr p 0,i64 want]) (fun o H'=>wp (zbk o fun vs=>ret (zbi [zd vs 0])) Q H') H:=by
 have r1:ReadAt H0 H R v st (view wv ws :: L):=⟨s1.tail,hu,hz⟩
 have hlen:=r1.words.len
 have hdo:z7h st ws=if ws.length=want∧zgk (wAt ws 3)≠0 then match zm3 ((ws.drop 1).take 2 ++ ws.drop 4) many with
  | some l=>some (addQ st ⟨kd,l.getD 0 0,l.getD 1 0,zgk (wAt ws 3),if q then l.getD 2 0 else 0⟩)
  | none=>none
 else none:=by
  unfold z7h
  rw[hq,hkd,hwant,hmany]
  cases q <;> rfl
 have hw45:4≤want∧want≤5∧want=many + 2:=by cases q <;> simp at hwant hmany <;> omega
 by_cases c1:ws.length=want
 case neg =>
  rw[if_neg (fun r=>c1 r.1)] at hdo
  have e1:decide ((ws.length:Int)≠(want:Int))=true:=decide_eq_true (by omega)
  (try simp (maxSteps:=999999) (disch:=try exact ZD) only[ZB,zi2,hlen,e1])
  exact hbad hdo _ r1.rest
 have e1:decide ((ws.length:Int)≠(want:Int))=false:=decide_eq_false (by omega)
 obtain⟨a3,b3⟩:=wd r1.words (i:=3) (n:=3) (by omega) rfl
 (try simp (maxSteps:=999999) (disch:=try exact ZD) only[ZA,zo,zn,zm,zk,zj,zg,ze,zi2,hlen,e1,zup,a3,b3])
 refine zbvp (hT.keep0 r1.hp.keeps) (wAt ws 3) _ ?_
 obtain⟨u1,hu1,su1⟩:=zb5w (α:=ByteArray) (n:=1) rfl r1.words (a:=1) (b:=3) (by omega) (by omega)
 obtain⟨u2,hu2,su2,_⟩:=zbd6 (α:=ByteArray) (n:=1) rfl r1.words (k:=4) (by omega)
 have hu1':zh6 1 wv (some (Value.int .i64 1)) (some (Value.int .i64 3))=some u1:=hu1
 have hu2':zh6 1 wv (some (Value.int .i64 4)) none=some u2:=hu2
 have e2:zu .sub (i64 (want:Int)) (Value.int .i64 2)=some (i64 (many:Int)):=by
  show some (Value.int .i64 (IntKind.wrap .i64 ((want:Int) - 2)))=_
  rw[show ((want:Int) - 2)=many by omega,i64_in (by omega) (by omega)]
 have o1:=su1.isOne
 have o2:=su2.isOne
 (try simp (maxSteps:=999999) (disch:=try exact ZD) only[ZA,zo,zn,zm,zk,zj,zg,ze,hu1',hu2',e2])
 have hcs:zbu (rep 2 [Value.slice none 0 0]) [(0,1,u1),(1,1,u2)]=some [u1,u2]:=by
  show zbu [Value.slice none 0 0,Value.slice none 0 0] _=_
  rw[ze o1 (by decide),ze o2 (by simp),zb1]
  rfl
 refine (zdf (by decide) hcs).mpr ?_
 have k2:Keeps [] H (H.push (some (.cells true [u1,u2]))):=Keeps.push _ _ _
 have hg:(H.push (some (.cells true [u1,u2]))).get H.next=some (.cells true [u1,u2]):=Heap.get_push_self _ _
 generalize H.push (some (.cells true [u1,u2]))=H1 at *
 have hs2:Sl2 H1 (slc H.next 0 1 2 2) ([⟨u1,(ws.drop 1).take 2,o1⟩,⟨u2,ws.drop 4,o2⟩]:List (In ByteArray)):=by
  refine⟨.inr ⟨H.next,0,1,2,rfl,Nat.le_refl _,Heap.get_lt hg,.inr ⟨true,_,hg,Nat.le_refl _,rfl⟩,.inr rfl⟩,fun x hx=>?_⟩
  simp only[List.mem_cons,List.not_mem_nil,or_false] at hx
  rcases hx with rfl | rfl
  ·exact su1.keep0 k2
  ·exact su2.keep0 k2
 (try simp (maxSteps:=999999) (disch:=try exact ZD) only[ZB,ccS])
 refine zbz5 (α:=ByteArray) rfl rfl rfl hs2 (by simp) (by simp[zpq];omega) (by omega) _ fun cw H2 oc k3 f3=>?_
 have hcat:z7e ([⟨u1,(ws.drop 1).take 2,o1⟩,⟨u2,ws.drop 4,o2⟩]:List (In ByteArray))=(ws.drop 1).take 2 ++ ws.drop 4:=by simp[z7e]
 rw[hcat] at oc
 have k13:=k2.trans k3 (fun _ _ h=>h)
 (try simp (maxSteps:=999999) (disch:=try exact ZD) only[ZA,zo,zn,zm,zk,zi,zj,zg,ze])
 rw[show ((want:Int) - 2)=(many:Int) by omega]
 refine zxr oc.sl (by simp;omega) (fun w hw=>?_) many _ (fun l hl w H3 k4 o4 f4=>?_) fun hn w H3 k4=>?_
 ·rcases List.mem_append.1 hw with hw | hw
  ·exact hwz w (List.mem_of_mem_drop (List.mem_of_mem_take hw))
  ·exact hwz w (List.mem_of_mem_drop hw)
 case refine_3 =>
  rw[hn] at hdo
  have e:z7h st ws=none:=by rw[hdo];split <;> rfl
  have r3:=(r1.keep0 k13).keep0 k4
  (try simp (maxSteps:=999999) (disch:=try exact ZD) only[ZB])
  exact hbad e _ r3.rest
 have s3:=(s1.keep0 k13).keep0 k4
 have r3:=(r1.keep0 k13).keep0 k4
 by_cases c2:zgk (wAt ws 3)=0
 ·rw[if_neg (fun r=>r.2 c2)] at hdo
  have e3:decide (zgk (wAt ws 3)≠0)=false:=decide_eq_false (fun r=>r c2)
  rw[e3]
  (try simp (maxSteps:=999999) (disch:=try exact ZD) only[ZB])
  exact hbad hdo _ r3.rest
 have e3:decide (zgk (wAt ws 3)≠0)=true:=decide_eq_true c2
 rw[if_pos ⟨c1,c2⟩,hl] at hdo
 rw[e3]
 have hll:=z04 hl
 obtain⟨x0,y0⟩:=vd0 o4.sl (by omega)
 obtain⟨x1,y1⟩:=vd o4.sl (i:=1) (n:=1) (by omega) rfl
 have g3:=s3.get (i:=0) rfl
 have n3:=Heap.get_lt g3
 have l4:=o4.len
 have hpb:slB w≠p:=by
  intro e
  rcases o4 with⟨rfl,hl0⟩ | ⟨b,rfl,hb⟩
  ·rw[hl0] at hll;simp at hll;omega
  ·have hf:=f4 b (by simp)
   have hp2:=(s1.keep0 k13).ltAt (i:=0) rfl p (by simp[cel])
   have:slB (slc b 0 (Flat.size Int) l.length l.length)=b:=rfl
   omega
 have y1':∀ x,zes ((H3.set p x).get (slB w)) (slO w + 1)=some (i64 (l.getD 1 0)):=fun x=>by rw[Heap.get_set_ne _ _ _ hpb];exact y1
 (try simp (maxSteps:=999999) (disch:=try exact ZD) only[ZB,zuo,x0,y0,x1,y1,g3])
 have s4:=s3.set (i:=0) rfl [i64 kd,i64 (l.getD 0 0),i64 (l.getD 1 0),i64 (zgk (wAt ws 3)),i64 0]
 simp only[List.set_cons_zero] at s4
 cases q with
 | false =>
  have e4:decide ((l.length:Int)=3)=false:=decide_eq_false (by simp at hmany;omega)
  (try simp (maxSteps:=999999) (disch:=try exact ZD) only[ZB,l4,e4])
  exact zbmx s4 hu hz hs Q fun v' H' r=>hok _ hdo v' H' r
 | true =>
  have e4:decide ((l.length:Int)=3)=true:=decide_eq_true (by simp at hmany;omega)
  obtain⟨x2,y2⟩:=vd o4.sl (i:=2) (n:=2) (by simp at hmany;omega) rfl
  have y2':∀ x,zes ((H3.set p x).get (slB w)) (slO w + 2)=some (i64 (l.getD 2 0)):=fun x=>by rw[Heap.get_set_ne _ _ _ hpb];exact y2
  (try simp (maxSteps:=999999) (disch:=try exact ZD) only[ZB,l4,e4,x2,y2',y2])
  have s5:=s3.set (i:=0) rfl [i64 kd,i64 (l.getD 0 0),i64 (l.getD 1 0),i64 (zgk (wAt ws 3)),i64 (l.getD 2 0)]
  simp only[List.set_cons_zero] at s5
  exact zbmx s5 hu hz hs Q fun v' H' r=>hok _ hdo v' H' r
theorem zb23 {G:List V→M V} {wv:V} {ws:List ByteArray} (hT:Tabs H0) (h:ReadAt H0 H R v st (view wv ws :: L)) (hs:Sm st 1000000) (hw:1≤ws.length) (hwz:∀ w∈ws,w.size≤1000000):zm4 H0 H R (view wv ws :: L) (z7h st ws) (zfn G zc3 [ptr R 0,wv]):=by
 intro Q hok hbad
 show wp (zj2 G zc3 (ptr R 0) wv) Q H
 obtain⟨a0,b0⟩:=wd0 h.words (by omega)
 have s1:Hp H0 (H.push (some (.cells true [i64 1,i64 0,i64 0,i64 0,i64 0]))) (cel H.next [i64 1,i64 0,i64 0,i64 0,i64 0] :: v.things R st (view wv ws :: L)):=h.hp.newc _
 have k1:Keeps [] H (H.push (some (.cells true [i64 1,i64 0,i64 0,i64 0,i64 0]))):=Keeps.push _ _ _
 have b0':=(wd0 (h.words.keep0 k1) (by omega)).2
 cases hq:decide (wAt ws 0=z2h) with
 | false =>
  have e1:decide (wAt ws 0=(⟨#[113,117,101,117,101]⟩:ByteArray))=false:=hq
  (try simp (maxSteps:=999999) (disch:=try exact ZD) only[ZB,zj2,a0,b0',e1])
  exact zbvt false 1 4 2 rfl rfl rfl hq hT s1 h.uns h.us hs hwz Q hok hbad
 | true =>
  have e1:decide (wAt ws 0=(⟨#[113,117,101,117,101]⟩:ByteArray))=true:=hq
  (try simp (maxSteps:=999999) (disch:=try exact ZD) only[ZB,zj2,a0,b0',e1])
  have s2:=s1.set (i:=0) rfl [i64 2,i64 0,i64 0,i64 0,i64 0]
  simp only[List.set_cons_zero] at s2
  rw[Heap.set_push_eq rfl] at s2
  exact zbvt true 2 5 3 rfl rfl rfl hq hT s2 h.uns h.us hs hwz Q hok hbad
end Go.AM.Cap
