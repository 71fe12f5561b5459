import Derived.Test.YtjchglndancedaaGreatDoorCfO
import Derived.Test.YtjchglndancedaaGreatDoorAmIn
set_option linter.all false
/- conf: lines that are said once, units, users -/
set_option maxHeartbeats 8000000
namespace Go.AM.Cap
open Go.AM Go.Proofs
variable {H0 H:Heap} {R:Nat} {v:RV} {st:RSt} {L:List Thing}
theorem zbil {G:List V→M V} {wv:V} {ws:List ByteArray} (h:ReadAt H0 H R v st (view wv ws :: L)) (hn:st.once.length≤1000000) (hw:1≤ws.length) (Q:V→Heap→Prop)
  (hok:∀ v' H',ReadAt H0 H' R v' { st with once:=st.once ++ [wAt ws 0] } (view wv ws :: L)→Q (.bool true) H'):wp (zka G zcn [ptr R 0,wv]) (fun o H'=>wp (zbl o fun vs=>ret (zbh [zd vs 0])) Q H') H:=by
 obtain⟨a0,b0⟩:=wd0 h.words (by omega)
 have g:=h.get
 have hone:=h.hp.own (i:=7) rfl
 unfold RV.cells at g
 (try simp(maxSteps:=1000000)(disch:=first|omega|(simp only[Z3];omega)|(simp;done)|assumption|decide|(apply not_not_intro;assumption))only[ZA,zca,zp,zo,zm,zk,zj,zi,ze,zka,g,a0,b0])
 refine zqd (α:=ByteArray) (n:=1) (ys:=[wAt ws 0]) h.hp (i:=7) rfl rfl (by decide) (by rw[show rep 1 [Value.string ⟨#[]⟩]=[Value.string ⟨#[]⟩] from rfl,ze rfl (by decide),zb9];rfl) rfl (by omega) (by decide) fun w2 H2 H3 k2 s2=>?_
 have g1:=k2.get h.get (by simp)
 have ck:zjh (zie (H2.get R) 9) v.ov=true:=by rw[g1];exact zqe hone.sl
 have g2:=s2.get (i:=0) rfl
 unfold RV.cells at g2
 have n2:=Heap.get_lt g2
 have ow:=(s2.own (i:=7) rfl).isOne
 (try simp(maxSteps:=1000000)(disch:=first|omega|(simp only[Z3];omega)|(simp;done)|assumption|decide|(apply not_not_intro;assumption))only[ZB,g2])
 simp only[ow,true_and]
 have s3:=s2.set (i:=0) rfl ({ v with ov:=w2 }.cells { st with once:=st.once ++ [wAt ws 0] })
 unfold RV.cells at s3
 have r3:ReadAt H0 _ R { v with ov:=w2 } { st with once:=st.once ++ [wAt ws 0] } (view wv ws :: L):=⟨s3,h.uns,h.us⟩
 (try simp(maxSteps:=1000000)(disch:=first|omega|(simp only[Z3];omega)|(simp;done)|assumption|decide|(apply not_not_intro;assumption))only[ZB,ck])
 exact hok _ _ r3
theorem zbqb {G:List V→M V} {wv:V} {ws:List ByteArray} (h:ReadAt H0 H R v st (view wv ws :: L)) (hs:Sm st 1000000) (hw:1≤ws.length) (hb:ws.length≤1000000) (hwz:∀ w∈ws,w.size≤1000000) (hk:wAt ws 0=zdv∨wAt ws 0=zgd∨wAt ws 0=zno) :
  zl0 H0 H R (view wv ws :: L) ((zf9 (ws.drop 1) 1).map fun l=>zjq st (wAt ws 0) (l.getD 0 0)) (zec G zcn [ptr R 0,wv]):=by
 intro Q hok hbad
 show wp (zlm G zcn (ptr R 0) wv) Q H
 have hsl:=h.words
 obtain⟨u,hu,hus,_⟩:=z84 (α:=ByteArray) (n:=1) rfl hsl (k:=1) hw
 have hu':zhs 1 wv (some (Value.int .i64 1)) none=some u:=hu
 (try simp(maxSteps:=1000000)(disch:=first|omega|(simp only[Z3];omega)|(simp;done)|assumption|decide|(apply not_not_intro;assumption))only[ZB,zlm,hu'])
 refine zvx hus (by rw[List.length_drop];omega) (fun w hw=>hwz w (List.mem_of_mem_drop hw)) 1 _ (fun l hl w H1 k1 o1 f1=>?_) fun hn w H1 k1=>?_
 case refine_2 =>
  have r1:=h.keep0 k1
  (try simp(maxSteps:=1000000)(disch:=first|omega|(simp only[Z3];omega)|(simp;done)|assumption|decide|(apply not_not_intro;assumption))only[ZB])
  exact hbad (by rw[hn];rfl) _ r1.rest
 have hlen:=zy1 hl
 have r1:=h.keep0 k1
 obtain⟨x0,y0⟩:=vd0 o1.sl (by omega)
 obtain⟨a0,b0⟩:=wd0 r1.words (by omega)
 have g:=r1.get
 have hlt:=r1.lt
 unfold RV.cells at g
 rw[hl] at hok
 have hon:=hs.once
 have e12:¬ zdv=zgd:=by decide
 have e13:¬ zdv=zno:=by decide
 have e23:¬ zgd=zno:=by decide
 rcases hk with hk | hk | hk
 ·rw[hk] at b0 hok
  have d1:decide (zdv=(⟨#[109,105,108,108,105,115]⟩:ByteArray))=true:=by decide
  (try simp(maxSteps:=1000000)(disch:=first|omega|(simp only[Z3];omega)|(simp;done)|assumption|decide|(apply not_not_intro;assumption))only[ZB,zhj,a0,b0,d1,x0,y0,g])
  have s2:=r1.hp.set (i:=0) rfl (v.cells { st with sy:={ st.sy with millis:=l.getD 0 0 } })
  unfold RV.cells at s2
  have r2:ReadAt H0 _ R v { st with sy:={ st.sy with millis:=l.getD 0 0 } } (view wv ws :: L):=⟨s2,r1.uns,r1.us⟩
  refine zbil r2 hon hw Q fun v' H' r3=>hok _ rfl v' H' ?_
  rw[hk] at r3
  show ReadAt H0 H' R v' (zjq st zdv (l.getD 0 0)) _
  have e:zjq st zdv (l.getD 0 0)={ st with sy:={ st.sy with millis:=l.getD 0 0 },once:=st.once ++ [zdv] } := by rw[zjq,if_pos rfl]
  rw[e];exact r3
 ·rw[hk] at b0 hok
  have d1:decide (zgd=(⟨#[109,105,108,108,105,115]⟩:ByteArray))=false:=by decide
  have d2:decide (zgd=(⟨#[102,114,97,109,101]⟩:ByteArray))=true:=by decide
  (try simp(maxSteps:=1000000)(disch:=first|omega|(simp only[Z3];omega)|(simp;done)|assumption|decide|(apply not_not_intro;assumption))only[ZB,zhj,a0,b0,d1,d2,x0,y0,g])
  have s2:=r1.hp.set (i:=0) rfl (v.cells { st with sy:={ st.sy with frame:=l.getD 0 0 } })
  unfold RV.cells at s2
  have r2:ReadAt H0 _ R v { st with sy:={ st.sy with frame:=l.getD 0 0 } } (view wv ws :: L):=⟨s2,r1.uns,r1.us⟩
  refine zbil r2 hon hw Q fun v' H' r3=>hok _ rfl v' H' ?_
  rw[hk] at r3
  show ReadAt H0 H' R v' (zjq st zgd (l.getD 0 0)) _
  have e:zjq st zgd (l.getD 0 0)={ st with sy:={ st.sy with frame:=l.getD 0 0 },once:=st.once ++ [zgd] } := by rw[zjq,if_neg (fun q=>e12 q.symm),if_pos rfl]
  rw[e];exact r3
 ·rw[hk] at b0 hok
  have d1:decide (zno=(⟨#[109,105,108,108,105,115]⟩:ByteArray))=false:=by decide
  have d2:decide (zno=(⟨#[102,114,97,109,101]⟩:ByteArray))=false:=by decide
  have d3:decide (zno=(⟨#[105,100,108,101]⟩:ByteArray))=true:=by decide
  (try simp(maxSteps:=1000000)(disch:=first|omega|(simp only[Z3];omega)|(simp;done)|assumption|decide|(apply not_not_intro;assumption))only[ZB,zhj,a0,b0,d1,d2,d3,x0,y0,g])
  have s2:=r1.hp.set (i:=0) rfl (v.cells { st with idle:=l.getD 0 0 })
  unfold RV.cells at s2
  have r2:ReadAt H0 _ R v { st with idle:=l.getD 0 0 } (view wv ws :: L):=⟨s2,r1.uns,r1.us⟩
  refine zbil r2 hon hw Q fun v' H' r3=>hok _ rfl v' H' ?_
  rw[hk] at r3
  show ReadAt H0 H' R v' (zjq st zno (l.getD 0 0)) _
  have e:zjq st zno (l.getD 0 0)={ st with idle:=l.getD 0 0,once:=st.once ++ [zno] } := by rw[zjq,if_neg (fun q=>e13 q.symm),if_neg (fun q=>e23 q.symm)]
  rw[e];exact r3
theorem Hp.nilAt {α:Type} [Flat α] {A B:List Thing} (h:Hp H0 H (A ++ B)):Hp H0 H (A ++ own (.slice none 0 0) ([]:List α) :: B):=(h.nilo (α:=α)).perm (List.perm_middle.symm)
theorem zbna (l:List Un) (u:Un):unT (l ++ [u])=unT l ++ [own u.ins.v u.ins.xs,own u.outs.v u.outs.xs]:=by simp[unT]
theorem zbnb (l:List Us) (u:Us):usT (l ++ [u])=usT l ++ [own u.rs.v u.rs.xs]:=by simp[usT]
def un0:Un:=⟨default,default⟩
theorem zbsz {uw:V} (s:Hp H0 H (cel R ({ v with uv:=uw }.cells st) :: own v.pv st.sy.pts :: own v.gv st.sy.grs :: own v.qv st.sy.prs :: own v.wv st.sy.wins :: own uw (v.uns ++ [un0]) :: own v.sv v.uz :: own v.ov st.once :: (unT v.uns ++ (usT v.uz ++ L)))) :
  Hp H0 H ({ v with uv:=uw,uns:=v.uns ++ [un0] }.things R (addU st) L):=by
 unfold RV.things
 rw[zbna]
 have s1:=Hp.nilAt (α:=Bd) (A:=cel R ({ v with uv:=uw }.cells st) :: own v.pv st.sy.pts :: own v.gv st.sy.grs :: own v.qv st.sy.prs :: own v.wv st.sy.wins :: own uw (v.uns ++ [un0]) :: own v.sv v.uz :: own v.ov st.once :: unT v.uns) (B:=usT v.uz ++ L) (by exact s)
 have s2:=Hp.nilAt (α:=Bd) s1
 rw[List.append_assoc]
 exact s2
theorem zbvm {wv:V} {ws:List ByteArray} (h:ReadAt H0 H R v st (view wv ws :: L)) (hs:Sm st 1000000):zl0 H0 H R (view wv ws :: L) (z3c st ws) (zfe [ptr R 0,wv]):=by
 intro Q hok hbad
 show wp (znx (ptr R 0) wv) Q H
 have hlen:=h.words.len
 have g:=h.get
 unfold RV.cells at g
 have hul:v.uns.length≤1000000:=by have:=hs.uns;rw[← h.uns,List.length_map] at this;exact this
 have eb:build [(Value.slice none 0 0:V),Value.slice none 0 0] []=some (.agg #[.slice none 0 0,.slice none 0 0]):=rfl
 (try simp(maxSteps:=1000000)(disch:=first|omega|(simp only[Z3];omega)|(simp;done)|assumption|decide|(apply not_not_intro;assumption))only[ZA,zca,zp,zo,zj,zi,zh,ze,znx,g,eb])
 have hf:zbu (rep 1 [(Value.slice none 0 0:V),Value.slice none 0 0]) [(0,2,.agg #[.slice none 0 0,.slice none 0 0])]=some (zbp ([un0]:List Un)):=by
  show zbu _ [(0,2,.agg ([.slice none 0 0,.slice none 0 0]:List V).toArray)]=_
  rw[zk (n:=2) rfl rfl (by decide),zb9]
  rfl
 refine zzl (α:=Un) (n:=2) (ys:=[un0]) h.hp (i:=5) rfl rfl (by decide) hf rfl (by omega) (by omega) fun w2 H3 s2=>?_
 have g2:=s2.get (i:=0) rfl
 unfold RV.cells at g2
 have n2:=Heap.get_lt g2
 have ow:=(s2.own (i:=5) rfl).isOne
 (try simp(maxSteps:=1000000)(disch:=first|omega|(simp only[Z3];omega)|(simp;done)|assumption|decide|(apply not_not_intro;assumption))only[ZB,g2,hlen])
 simp only[ow,true_and]
 have s3:=s2.set (i:=0) rfl ({ v with uv:=w2 }.cells st)
 have s4:=zbsz (v:=v) (st:=st) (uw:=w2) (by exact s3)
 unfold RV.cells at s4 s3
 have r3:ReadAt H0 _ R { v with uv:=w2,uns:=v.uns ++ [un0] } (addU st) (view wv ws :: L):=⟨s4,by simp only[addU];rw[List.map_append,h.uns];rfl,h.us⟩
 by_cases c1:ws.length=1
 ·have e:z3c st ws=some (addU st):=by rw[z3c,if_pos c1]
  have e1:decide ((ws.length:Int)=1)=true:=decide_eq_true (by omega)
  (try simp(maxSteps:=1000000)(disch:=first|omega|(simp only[Z3];omega)|(simp;done)|assumption|decide|(apply not_not_intro;assumption))only[ZB,e1])
  exact hok _ e _ _ r3
 ·have e:z3c st ws=none:=by rw[z3c,if_neg c1]
  have e1:decide ((ws.length:Int)=1)=false:=decide_eq_false (by omega)
  (try simp(maxSteps:=1000000)(disch:=first|omega|(simp only[Z3];omega)|(simp;done)|assumption|decide|(apply not_not_intro;assumption))only[ZB,e1])
  exact hbad e _ r3.rest
theorem zbs0 {sw:V} (name key:ByteArray) (s:Hp H0 H (cel R ({ v with sv:=sw }.cells st) :: own v.pv st.sy.pts :: own v.gv st.sy.grs :: own v.qv st.sy.prs :: own v.wv st.sy.wins :: own v.uv v.uns :: own sw (v.uz ++ [(⟨name,key,default⟩:Us)]) :: own v.ov st.once :: (unT v.uns ++ (usT v.uz ++ L)))) :
  Hp H0 H ({ v with sv:=sw,uz:=v.uz ++ [(⟨name,key,default⟩:Us)] }.things R (addS st ⟨name,key,[]⟩) L):=by
 unfold RV.things
 rw[zbnb]
 have s1:=Hp.nilAt (α:=Rl) (A:=cel R ({ v with sv:=sw }.cells st) :: own v.pv st.sy.pts :: own v.gv st.sy.grs :: own v.qv st.sy.prs :: own v.wv st.sy.wins :: own v.uv v.uns :: own sw (v.uz ++ [(⟨name,key,default⟩:Us)]) :: own v.ov st.once :: (unT v.uns ++ usT v.uz)) (B:=L) (by rw[← List.append_assoc] at s;exact s)
 rw[List.append_assoc,← List.append_assoc (unT _)]
 exact s1
theorem zbvn {G:List V→M V} {wv:V} {ws:List ByteArray} (h:ReadAt H0 H R v st (view wv ws :: L)) (hs:Sm st 1000000) (hwz:∀ w∈ws,w.size≤1000000):zl0 H0 H R (view wv ws :: L) (zvw st ws) (zfg G zsu [ptr R 0,wv]):=by
 intro Q hok hbad
 show wp (zjm G zsu (ptr R 0) wv) Q H
 have hlen:=h.words.len
 by_cases c1:ws.length=3
 case neg =>
  have e:zvw st ws=none:=by rw[zvw,if_neg c1]
  have e1:decide ((ws.length:Int)≠3)=true:=decide_eq_true (by omega)
  (try simp(maxSteps:=1000000)(disch:=first|omega|(simp only[Z3];omega)|(simp;done)|assumption|decide|(apply not_not_intro;assumption))only[ZB,zjm,hlen,e1])
  exact hbad e _ h.rest
 have e1:decide ((ws.length:Int)≠3)=false:=decide_eq_false (by omega)
 obtain⟨a2,b2⟩:=wd h.words (i:=2) (n:=2) (by omega) rfl
 (try simp(maxSteps:=1000000)(disch:=first|omega|(simp only[Z3];omega)|(simp;done)|assumption|decide|(apply not_not_intro;assumption))only[ZA,zca,zp,zo,zm,zj,zi,zh,ze,zjm,hlen,e1,zs2,a2,b2])
 have hul:v.uz.length≤1000000:=by have:=hs.us;rw[← h.us,List.length_map] at this;exact this
 have fin:∀ (key:ByteArray) (ok:Bool) (H1:Heap),Keeps [] H H1→(∀ v' H',ReadAt H0 H' R v' (addS st ⟨wAt ws 1,key,[]⟩) (view wv ws :: L)→Q (.bool ok) H') →
   wp (zm9 fun h0 =>
 zb (za (zci (ptr R 0))) fun x19 =>
 zb (za (zg 0 x19)) fun x20 =>
 zb (za (zg 7 x20)) fun x21 =>
 zb (za (zx 1 wv (Value.int .i64 1))) fun x24 =>
 zb (z8 x21) fun x22 =>
 zb (z8 x24) fun x25 =>
 zb (za (build [Value.string ⟨#[]⟩,Value.string ⟨#[]⟩,Value.slice none 0 0] [(0,1,x25),(1,1,.string key)])) fun x27 =>
 zc9 (zd2 3 1 (rep 1 [Value.string ⟨#[]⟩,Value.string ⟨#[]⟩,Value.slice none 0 0]) [(0,3,x27)]) fun ha x28 h1 =>
 zc9 (zgm 3 56 x22 x28) fun ha_2 x29 h2 =>
 zb (za (zci (ptr R 0))) fun x30 =>
 zb (za (zg 0 x30)) fun x31 =>
 zb (za (zg 7 x31)) fun x32 =>
 zc9 (st1 x32 x29) fun ha_3 u h3 =>
 zjs (chk (z8 x21) h1 x22) <|
 ret (.ret [.bool ok])) (fun o H'=>wp (zbl o fun vs=>ret (zbh [zd vs 0])) Q H') H1:=by
  intro key ok H1 k1 hfin
  have r1:=h.keep0 k1
  obtain⟨a1,b1⟩:=wd r1.words (i:=1) (n:=1) (by omega) rfl
  have g:=r1.get
  have hone:=r1.hp.own (i:=6) rfl
  unfold RV.cells at g
  (try simp(maxSteps:=1000000)(disch:=first|omega|(simp only[Z3];omega)|(simp;done)|assumption|decide|(apply not_not_intro;assumption))only[ZA,zca,zp,zo,zm,zj,zi,zh,ze,g,a1,b1])
  have hf:zbu (rep 1 [Value.string ⟨#[]⟩,Value.string ⟨#[]⟩,Value.slice none 0 0]) [(0,3,.agg #[.string (wAt ws 1),.string key,.slice none 0 0])]=some (zbp ([⟨wAt ws 1,key,default⟩]:List Us)):=by
   show zbu _ [(0,3,.agg ([.string (wAt ws 1),.string key,.slice none 0 0]:List V).toArray)]=_
   rw[zk (n:=3) rfl rfl (by decide),zb9]
   rfl
  refine zqd (α:=Us) (n:=3) (ys:=[⟨wAt ws 1,key,default⟩]) r1.hp (i:=6) rfl rfl (by decide) hf rfl (by omega) (by decide) fun w2 H2 H3 k2 s2=>?_
  have g1:=k2.get r1.get (by simp)
  have ck:zjh (zie (H2.get R) 7) v.sv=true:=by rw[g1];exact zqe hone.sl
  have g2:=s2.get (i:=0) rfl
  unfold RV.cells at g2
  have n2:=Heap.get_lt g2
  have ow:=(s2.own (i:=6) rfl).isOne
  (try simp(maxSteps:=1000000)(disch:=first|omega|(simp only[Z3];omega)|(simp;done)|assumption|decide|(apply not_not_intro;assumption))only[ZB,g2])
  simp only[ow,true_and]
  have s3:=s2.set (i:=0) rfl ({ v with sv:=w2 }.cells st)
  have s4:=zbs0 (v:=v) (st:=st) (sw:=w2) (wAt ws 1) key (by exact s3)
  unfold RV.cells at s4 s3
  have r3:ReadAt H0 _ R { v with sv:=w2,uz:=v.uz ++ [⟨wAt ws 1,key,default⟩] } (addS st ⟨wAt ws 1,key,[]⟩) (view wv ws :: L):=⟨s4,h.uns,by simp only[addS];rw[List.map_append,h.us];rfl⟩
  (try simp(maxSteps:=1000000)(disch:=first|omega|(simp only[Z3];omega)|(simp;done)|assumption|decide|(apply not_not_intro;assumption))only[ZB,ck])
  exact hfin _ _ r3
 refine zbsw (wAt ws 2) (hwz _ (z87 (by omega))) _ (fun r hr H1 k1=>?_) fun hn H1 k1=>?_
 ·have e:zvw st ws=some (addS st ⟨wAt ws 1,sv r,[]⟩):=by rw[zvw,if_pos c1,hr]
  have:=fin (sv r) true H1 k1 fun v' H' r3=>hok _ e v' H' r3
  (try simp(maxSteps:=1000000)(disch:=first|omega|(simp only[Z3];omega)|(simp;done)|assumption|decide|(apply not_not_intro;assumption))only[ZA,zca,zp,zo,zm,zj,zi,zh,ze] at this)
  (try simp(maxSteps:=1000000)(disch:=first|omega|(simp only[Z3];omega)|(simp;done)|assumption|decide|(apply not_not_intro;assumption))only[ZA,zca,zp,zo,zm,zj,zi,zh,ze])
  exact this
 ·have e:zvw st ws=none:=by rw[zvw,if_pos c1,hn]
  have:=fin zh4 false H1 k1 fun v' H' r3=>hbad e H' r3.rest
  (try simp(maxSteps:=1000000)(disch:=first|omega|(simp only[Z3];omega)|(simp;done)|assumption|decide|(apply not_not_intro;assumption))only[ZA,zca,zp,zo,zm,zj,zi,zh,ze] at this)
  (try simp(maxSteps:=1000000)(disch:=first|omega|(simp only[Z3];omega)|(simp;done)|assumption|decide|(apply not_not_intro;assumption))only[ZA,zca,zp,zo,zm,zj,zi,zh,ze])
  exact this
end Go.AM.Cap
