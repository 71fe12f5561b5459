import Derived.Test.YtjchglndancedaaGreatDoorCfP
import Derived.Test.YtjchglndancedaaGreatDoorAmIn
set_option linter.all false
/- conf: binds, roles -/
set_option maxHeartbeats 8000000
namespace Go.AM.Cap
open Go.AM Go.Proofs
variable {H0 H:Heap} {R:Nat} {v:RV} {st:RSt} {L:List Thing}
theorem z2l:∀ {l:List Un} {i:Nat} {X:List Thing},i < l.length→(unT l ++ X)[2 * i]? = some (own (l.getD i default).ins.v (l.getD i default).ins.xs)∧(unT l ++ X)[2 * i + 1]? = some (own (l.getD i default).outs.v (l.getD i default).outs.xs)
 | [],i,X,h=>by simp at h
 | u :: l,0,X,_=>⟨rfl,rfl⟩
 | u :: l,i + 1,X,h=>z2l (l:=l) (i:=i) (X:=X) (by simpa using h)
theorem zbo7:∀ {l:List Un} {i:Nat} {X:List Thing} (a:In Bd),i < l.length→(unT l ++ X).set (2 * i) (own a.v a.xs)=unT (l.set i ⟨a,(l.getD i default).outs⟩) ++ X∧(unT l ++ X).set (2 * i + 1) (own a.v a.xs)=unT (l.set i ⟨(l.getD i default).ins,a⟩) ++ X
 | [],i,X,a,h=>by simp at h
 | u :: l,0,X,a,_=>⟨rfl,rfl⟩
 | u :: l,i + 1,X,a,h=>by
  obtain⟨h1,h2⟩:=zbo7 (l:=l) (i:=i) (X:=X) a (by simpa using h)
  refine⟨?_,?_⟩
  ·show own u.ins.v u.ins.xs :: own u.outs.v u.outs.xs :: ((unT l ++ X).set (2 * i) _)=_
   rw[h1];rfl
  ·show own u.ins.v u.ins.xs :: own u.outs.v u.outs.xs :: ((unT l ++ X).set (2 * i + 1) _)=_
   rw[h2];rfl
theorem zbvr:∀ {l:List Us} {i:Nat} {X:List Thing},i < l.length→(usT l ++ X)[i]? = some (own (l.getD i default).rs.v (l.getD i default).rs.xs)
 | [],i,X,h=>by simp at h
 | u :: l,0,X,_=>rfl
 | u :: l,i + 1,X,h=>zbvr (l:=l) (i:=i) (X:=X) (by simpa using h)
theorem zbvs:∀ {l:List Us} {i:Nat} {X:List Thing} (a:In Rl),i < l.length→(usT l ++ X).set i (own a.v a.xs)=usT (l.set i ⟨(l.getD i default).name,(l.getD i default).key,a⟩) ++ X
 | [],i,X,a,h=>by simp at h
 | u :: l,0,X,a,_=>rfl
 | u :: l,i + 1,X,a,h=>by
  have h1:=zbvs (l:=l) (i:=i) (X:=X) a (by simpa using h)
  show own u.rs.v u.rs.xs :: ((usT l ++ X).set i _)=_
  rw[h1];rfl
theorem zbmw {α β:Type} (f:α→β) (l:List α) (i:Nat) (a:α) (b:β) (h:i < l.length):(l.map f).getD i b=f (l.getD i a):=by
 rw[List.getD_eq_getElem?_getD,List.getElem?_map,List.getD_eq_getElem?_getD,List.getElem?_eq_getElem h];rfl
theorem zb21 {G:List V→M V} {wv:V} {ws:List ByteArray} (h:ReadAt H0 H R v st (view wv ws :: L)) (hs:Sm st 1000000) (hwz:∀ w∈ws,w.size≤1000000):zm4 H0 H R (view wv ws :: L) (zs6 st ws) (zfp G zc3 [ptr R 0,wv]):=by
 intro Q hok hbad
 show wp (zhn G zc3 (ptr R 0) wv) Q H
 have hlen:=h.words.len
 have hul:st.sy.uns.length=v.uns.length:=by rw[← h.uns,List.length_map]
 by_cases c1:ws.length=3
 case neg =>
  have e:zs6 st ws=none:=by rw[zs6,if_neg (fun q=>c1 q.1)]
  have e1:decide ((ws.length:Int)≠3)=true:=decide_eq_true (by omega)
  (try simp (maxSteps:=999999) (disch:=try exact ZD) only[ZB,zhn,hlen,e1])
  exact hbad e _ h.rest
 have e1:decide ((ws.length:Int)≠3)=false:=decide_eq_false (by omega)
 have g:=h.get
 have hout:=(h.hp.own (i:=5) rfl)
 have hol:=hout.len
 unfold RV.cells at g
 by_cases c2:v.uns.length=0
 ·have e:zs6 st ws=none:=by rw[zs6,if_neg (fun q=>q.2.1 (List.eq_nil_of_length_eq_zero (by omega)))]
  have e2:decide ((v.uns.length:Int)=0)=true:=decide_eq_true (by omega)
  (try simp (maxSteps:=999999) (disch:=try exact ZD) only[ZB,zhn,hlen,e1,g,hol,e2])
  exact hbad e _ h.rest
 have e2:decide ((v.uns.length:Int)=0)=false:=decide_eq_false (by omega)
 obtain⟨a2,b2⟩:=wd h.words (i:=2) (n:=2) (by omega) rfl
 (try simp (maxSteps:=999999) (disch:=try exact ZD) only[ZA,zo,zm,zi,zj,zg,ze,zhn,hlen,e1,g,hol,e2,zuq,a2,b2])
 refine zbfq (wAt ws 2) (hwz _ (zbd8 (by omega))) _ fun H1 k1=>?_
 have r1:=h.keep0 k1
 generalize hnum:zz3 (wAt ws 2)=nm at *
 obtain⟨n,ok⟩:=nm
 (try simp (maxSteps:=999999) (disch:=try exact ZD) only[ZA,zo,zm,zi,zj,zg,ze])
 have hf2:zbu (rep 2 [Value.string ⟨#[]⟩]) [(0,1,(Value.string ⟨#[112,111,105,110,116]⟩)),(1,1,(Value.string ⟨#[112,111,114,116]⟩))]=some (zbj [zkg,zr5]):=rfl
 refine (zdf (by decide) hf2).mpr ?_
 have r2:Hp H0 (H1.push (some (.cells true (zbj [zkg,zr5])))) (own (slc H1.next 0 1 2 2) [zkg,zr5] :: v.things R st (view wv ws :: L)):=r1.hp.newo (α:=ByteArray) (n:=1) (m:=2) [zkg,zr5] rfl rfl
 have k2:Keeps [] H1 (H1.push (some (.cells true (zbj [zkg,zr5])))):=Keeps.push _ _ _
 generalize H1.push (some (.cells true (zbj [zkg,zr5])))=H2 at *
 have r2':=r1.keep0 k2
 obtain⟨a1,b1⟩:=wd r2'.words (i:=1) (n:=1) (by omega) rfl
 (try simp (maxSteps:=999999) (disch:=try exact ZD) only[ZA,zo,zm,zi,zj,zg,ze,a1,b1])
 refine z78 (l:=[zkg,zr5]) (r2.own (i:=0) rfl).sl (by decide) (wAt ws 1) _ ?_
 have hbk:=zb0a (wAt ws 1)
 have hbr:=zbsd (wAt ws 1)
 have e3:zu .add (Value.int .i64 1) (i64 (zkt (zhf (fun x=>decide (wAt ws 1=x)) [zkg,zr5])))=some (i64 (zfa (wAt ws 1))):=by
  rw[← hbk] at hbr ⊢
  show some (Value.int .i64 (IntKind.wrap .i64 _))=_
  rw[i64_in (by omega) (by omega)]
 have g2:=r2'.get
 unfold RV.cells at g2
 obtain⟨k,hk⟩:∃ k,v.uns.length=k + 1:=⟨v.uns.length - 1,by omega⟩
 have hkl:k < v.uns.length:=by omega
 have e4:zu .sub (i64 (v.uns.length:Int)) (Value.int .i64 1)=some (i64 (k:Int)):=by
  show some (Value.int .i64 (IntKind.wrap .i64 ((v.uns.length:Int) - 1)))=_
  have hle:=hs.uns
  rw[show ((v.uns.length:Int) - 1)=k by omega,i64_in (by omega) (by omega)]
 have s3:Hp H0 (H2.push (some (.cells true [i64 (zfa (wAt ws 1)),i64 n]))) (cel H2.next [i64 (zfa (wAt ws 1)),i64 n] :: v.things R st (view wv ws :: L)):=r2'.hp.newc _
 have k3:Keeps [] H2 (H2.push (some (.cells true [i64 (zfa (wAt ws 1)),i64 n]))):=Keeps.push _ _ _
 have hne:R≠H2.next:=by have:=r2'.lt;omega
 (try simp (maxSteps:=999999) (disch:=try exact ZD) only[ZA,zo,zm,zi,zj,zg,ze,e3,g2,hol,e4])
 generalize H2.push (some (.cells true [i64 (zfa (wAt ws 1)),i64 n]))=H3 at *
 have r3:=r2'.keep0 k3
 have g3:=r3.get
 unfold RV.cells at g3
 have hout3:=(r3.hp.own (i:=5) rfl)
 have a3:=hout3.sl.addr' (n:=2) rfl (k := .i64) (i:=(k:Int)) (by omega) (by omega)
 rw[Int.toNat_natCast] at a3
 obtain⟨a0,b0⟩:=wd0 r3.words (by omega)
 have hlast:zbvm st.sy.uns=(v.uns.getD k default).p:=by
  unfold zbvm
  rw[hul,hk,Nat.add_sub_cancel,← h.uns]
  exact zbmw _ _ _ _ _ hkl
 have d3:=fun Q=>zbb (n:=2) (Q:=Q) (s3.get (i:=0) rfl) rfl
 have hf:zbu (rep 1 [Value.int .i64 0,Value.int .i64 0]) [(0,2,.agg #[i64 (zfa (wAt ws 1)),i64 n])]=some (zbj ([⟨zfa (wAt ws 1),n⟩]:List Bd)):=by
  show zbu _ [(0,2,.agg ([i64 (zfa (wAt ws 1)),i64 n]:List V).toArray)]=_
  rw[zk (n:=2) rfl rfl (by decide),zb1]
  rfl
 have hmem:(v.uns.getD k default).p∈st.sy.uns:=by rw[← h.uns];exact List.mem_map_of_mem (zbh hkl)
 have hinn:=hs.inn _ hmem
 simp only[Un.p] at hinn
 have fin:∀ (v':RV) (H6:Heap),ReadAt H0 H6 R v' (addB st (decide (wAt ws 0=z34)) ⟨zfa (wAt ws 1),n⟩) (view wv ws :: L)→H6.get H2.next=some (.cells true [i64 (zfa (wAt ws 1)),i64 n])→wp (zgx G zc3 [.bool ok,ptr H2.next 0]) (fun o H'=>wp (zbk o fun vs=>ret (zbi [zd vs 0])) Q H') H6:=fun v' H6 r6 g6=>by
  cases ok with
  | false =>
   have e:zs6 st ws=none:=by rw[zs6,if_neg (by rw[hnum];exact fun q=>by cases q.2.2.2)]
   (try simp (maxSteps:=999999) (disch:=try exact ZD) only[ZB,zgx])
   exact hbad e _ r6.rest
  | true =>
   by_cases c3:zfa (wAt ws 1)=0
   ·have e:zs6 st ws=none:=by rw[zs6,if_neg (fun q=>q.2.2.1 c3)]
    have e5:decide (zfa (wAt ws 1) > 0)=false:=decide_eq_false (by omega)
    (try simp (maxSteps:=999999) (disch:=try exact ZD) only[ZB,zgx,g6,e5])
    exact hbad e _ r6.rest
   ·have e:zs6 st ws=some (addB st (decide (wAt ws 0=z34)) ⟨zfa (wAt ws 1),n⟩):=by
     rw[zs6,if_pos ⟨c1,fun q=>by rw[q] at hul;simp at hul;omega,c3,by rw[hnum]⟩,hnum]
    have e5:decide (zfa (wAt ws 1) > 0)=true:=decide_eq_true (by omega)
    (try simp (maxSteps:=999999) (disch:=try exact ZD) only[ZB,zgx,g6,e5])
    exact hok _ e _ _ r6
 by_cases c4:wAt ws 0=z34
 ·have e6:decide (wAt ws 0=(⟨#[103,101,116]⟩:ByteArray))=true:=decide_eq_true c4
  have c6:=hout3.sl.cell' (n:=2) rfl (off:=0) hkl (by omega) default
  rw[zbd,Nat.add_zero] at c6
  have e7:(Flat.enc (v.uns.getD k default))[0]? = some (v.uns.getD k default).ins.v:=rfl
  rw[e7] at c6
  (try simp (maxSteps:=999999) (disch:=try exact ZD) only[ZA,zo,zm,zi,zj,zg,ze,g3,hol,e4,a3,a0,b0,e6,c6,d3])
  refine zr6 (α:=Bd) (n:=2) (ys:=[⟨zfa (wAt ws 1),n⟩]) s3 (i:=2 * k + 9) (z2l hkl).1 rfl (by decide) hf rfl (by omega) (by decide) fun w2 H4 H5 k4 s5=>?_
  have c7:=(hout3.sl.keep0 k4).cell' (n:=2) rfl (off:=0) hkl (by omega) default
  rw[zbd,Nat.add_zero,e7] at c7
  have ck:zie (zes (H4.get (slB v.uv)) (slO v.uv + k * 2)) (v.uns.getD k default).ins.v=true:=by
   rw[c7]
   exact zi3 (s3.own (i:=2 * k + 9) (z2l hkl).1).sl
  have s5':Hp H0 H5 (cel H2.next [i64 (zfa (wAt ws 1)),i64 n] :: cel R (v.cells st) :: own v.pv st.sy.pts :: own v.gv st.sy.grs :: own v.qv st.sy.prs :: own v.wv st.sy.wins :: own v.uv v.uns :: own v.sv v.uz :: own v.ov st.once :: ((unT v.uns ++ (usT v.uz ++ (view wv ws :: L))).set (2 * k) (own w2 ((v.uns.getD k default).ins.xs ++ [⟨zfa (wAt ws 1),n⟩])))):=s5
  have ow2:w2.isOne=true:=(s5'.own (i:=2 * k + 9) (by
   show ((unT v.uns ++ (usT v.uz ++ (view wv ws :: L))).set (2 * k) _)[2 * k]? = _
   rw[List.getElem?_set_self]
   have:=(z2l (X:=usT v.uz ++ (view wv ws :: L)) hkl).1
   rcases Nat.lt_or_ge (2 * k) (unT v.uns ++ (usT v.uz ++ (view wv ws :: L))).length with q | q
   ·exact q
   ·rw[List.getElem?_eq_none q] at this;cases this)).isOne
  have es:(unT v.uns ++ (usT v.uz ++ (view wv ws :: L))).set (2 * k) (own w2 ((v.uns.getD k default).ins.xs ++ [⟨zfa (wAt ws 1),n⟩]))=_:=(zbo7 (⟨w2,(v.uns.getD k default).ins.xs ++ [(⟨zfa (wAt ws 1),n⟩:Bd)],ow2⟩:In Bd) hkl).1
  rw[es] at s5'
  (try simp (maxSteps:=999999) (disch:=try exact ZD) only[ZA,zo,zm,zk,zi,zj,zg,ze])
  refine zbty (α:=Un) (n:=2) (idx:=6) (i:=k) (off:=0) (x':=⟨⟨w2,(v.uns.getD k default).ins.xs ++ [⟨zfa (wAt ws 1),n⟩],ow2⟩,(v.uns.getD k default).outs⟩) (d:=default) s5' rfl rfl hkl (by decide) ow2 rfl fun H6 s6=>?_
  have s6':=s6.tail
  have r6:ReadAt H0 H6 R { v with uns:=v.uns.set k ⟨⟨w2,(v.uns.getD k default).ins.xs ++ [⟨zfa (wAt ws 1),n⟩],ow2⟩,(v.uns.getD k default).outs⟩ } (addB st (decide (wAt ws 0=z34)) ⟨zfa (wAt ws 1),n⟩) (view wv ws :: L):=by
   refine⟨s6',?_,h.us⟩
   simp only[addB,hlast,List.map_set,h.uns,decide_eq_true c4,if_true,hul,hk,Nat.add_sub_cancel]
   rfl
  have q:=fin _ _ r6 (s6.get (i:=0) rfl)
  (try simp (maxSteps:=999999) (disch:=try exact ZD) only[ZA,zo,zm,zk,zi,zj,zg,ze,ck])
  exact q
 ·have e6:decide (wAt ws 0=(⟨#[103,101,116]⟩:ByteArray))=false:=decide_eq_false c4
  have c6:=hout3.sl.cell' (n:=2) rfl (off:=1) hkl (by omega) default
  rw[zbd] at c6
  have e7:(Flat.enc (v.uns.getD k default))[1]? = some (v.uns.getD k default).outs.v:=rfl
  rw[e7] at c6
  (try simp (maxSteps:=999999) (disch:=try exact ZD) only[ZA,zo,zm,zi,zj,zg,ze,g3,hol,e4,a3,a0,b0,e6,c6,d3])
  refine zr6 (α:=Bd) (n:=2) (ys:=[⟨zfa (wAt ws 1),n⟩]) s3 (i:=2 * k + 1 + 9) (z2l hkl).2 rfl (by decide) hf rfl (by omega) (by decide) fun w2 H4 H5 k4 s5=>?_
  have c7:=(hout3.sl.keep0 k4).cell' (n:=2) rfl (off:=1) hkl (by omega) default
  rw[zbd,e7] at c7
  have ck:zie (zes (H4.get (slB v.uv)) (slO v.uv + k * 2 + 1)) (v.uns.getD k default).outs.v=true:=by
   rw[c7]
   exact zi3 (s3.own (i:=2 * k + 1 + 9) (z2l hkl).2).sl
  have s5':Hp H0 H5 (cel H2.next [i64 (zfa (wAt ws 1)),i64 n] :: cel R (v.cells st) :: own v.pv st.sy.pts :: own v.gv st.sy.grs :: own v.qv st.sy.prs :: own v.wv st.sy.wins :: own v.uv v.uns :: own v.sv v.uz :: own v.ov st.once :: ((unT v.uns ++ (usT v.uz ++ (view wv ws :: L))).set (2 * k + 1) (own w2 ((v.uns.getD k default).outs.xs ++ [⟨zfa (wAt ws 1),n⟩])))):=s5
  have ow2:w2.isOne=true:=(s5'.own (i:=2 * k + 1 + 9) (by
   show ((unT v.uns ++ (usT v.uz ++ (view wv ws :: L))).set (2 * k + 1) _)[2 * k + 1]? = _
   rw[List.getElem?_set_self]
   have:=(z2l (X:=usT v.uz ++ (view wv ws :: L)) hkl).2
   rcases Nat.lt_or_ge (2 * k + 1) (unT v.uns ++ (usT v.uz ++ (view wv ws :: L))).length with q | q
   ·exact q
   ·rw[List.getElem?_eq_none q] at this;cases this)).isOne
  have es:(unT v.uns ++ (usT v.uz ++ (view wv ws :: L))).set (2 * k + 1) (own w2 ((v.uns.getD k default).outs.xs ++ [⟨zfa (wAt ws 1),n⟩]))=_:=(zbo7 (⟨w2,(v.uns.getD k default).outs.xs ++ [(⟨zfa (wAt ws 1),n⟩:Bd)],ow2⟩:In Bd) hkl).2
  rw[es] at s5'
  (try simp (maxSteps:=999999) (disch:=try exact ZD) only[ZA,zo,zm,zk,zi,zj,zg,ze])
  refine zbty (α:=Un) (n:=2) (idx:=6) (i:=k) (off:=1) (x':=⟨(v.uns.getD k default).ins,⟨w2,(v.uns.getD k default).outs.xs ++ [⟨zfa (wAt ws 1),n⟩],ow2⟩⟩) (d:=default) s5' rfl rfl hkl (by decide) ow2 rfl fun H6 s6=>?_
  have s6':=s6.tail
  have r6:ReadAt H0 H6 R { v with uns:=v.uns.set k ⟨(v.uns.getD k default).ins,⟨w2,(v.uns.getD k default).outs.xs ++ [⟨zfa (wAt ws 1),n⟩],ow2⟩⟩ } (addB st (decide (wAt ws 0=z34)) ⟨zfa (wAt ws 1),n⟩) (view wv ws :: L):=by
   refine⟨s6',?_,h.us⟩
   simp only[addB,hlast,List.map_set,h.uns,decide_eq_false c4,hul,hk,Nat.add_sub_cancel]
   rfl
  have q:=fin _ _ r6 (s6.get (i:=0) rfl)
  (try simp (maxSteps:=999999) (disch:=try exact ZD) only[ZA,zo,zm,zk,zi,zj,zg,ze,ck])
  exact q
end Go.AM.Cap
