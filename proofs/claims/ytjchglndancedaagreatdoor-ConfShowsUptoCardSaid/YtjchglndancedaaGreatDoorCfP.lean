import Derived.Test.YtjchglndancedaaGreatDoorCfO
import Derived.Test.YtjchglndancedaaGreatDoorAmIn
set_option linter.all false
/- conf: lines that are said once, units, users -/
set_option maxHeartbeats 8000000
namespace Go.AM.Cap
open Go.AM Go.Proofs
variable {H0 H:Heap} {R:Nat} {v:RV} {st:RSt} {L:List Thing}
theorem zbo6 {G:List V→M V} {wv:V} {ws:List ByteArray} (h:ReadAt H0 H R v st (view wv ws :: L)) (hn:st.once.length≤1000000) (hw:1≤ws.length) (Q:V→Heap→Prop)
  (hok:∀ v' H',ReadAt H0 H' R v' { st with once:=st.once ++ [wAt ws 0] } (view wv ws :: L)→Q (.bool true) H'):wp (zk5 G zc3 [ptr R 0,wv]) (fun o H'=>wp (zbk o fun vs=>ret (zbi [zd vs 0])) Q H') H:=by
 obtain⟨a0,b0⟩:=wd0 h.words (by omega)
 have g:=h.get
 have hone:=h.hp.own (i:=7) rfl
 unfold RV.cells at g
 (try simp (maxSteps:=999999) (disch:=try exact ZD) only[ZA,zbz,zo,zn,zm,zk,zi,zj,ze,zk5,g,a0,b0])
 refine zr6 (α:=ByteArray) (n:=1) (ys:=[wAt ws 0]) h.hp (i:=7) rfl rfl (by decide) (by rw[show rep 1 [Value.string ⟨#[]⟩]=[Value.string ⟨#[]⟩] from rfl,ze rfl (by decide),zb1];rfl) rfl (by omega) (by decide) fun w2 H2 H3 k2 s2=>?_
 have g1:=k2.get h.get (by simp)
 have ck:zie (zes (H2.get R) 9) v.ov=true:=by rw[g1];exact zi3 hone.sl
 have g2:=s2.get (i:=0) rfl
 unfold RV.cells at g2
 have n2:=Heap.get_lt g2
 have ow:=(s2.own (i:=7) rfl).isOne
 (try simp (maxSteps:=999999) (disch:=try exact ZD) only[ZB,g2])
 simp only[ow,true_and]
 have s3:=s2.set (i:=0) rfl ({ v with ov:=w2 }.cells { st with once:=st.once ++ [wAt ws 0] })
 unfold RV.cells at s3
 have r3:ReadAt H0 _ R { v with ov:=w2 } { st with once:=st.once ++ [wAt ws 0] } (view wv ws :: L):=⟨s3,h.uns,h.us⟩
 (try simp (maxSteps:=999999) (disch:=try exact ZD) only[ZB,ck])
 exact hok _ _ r3
theorem zbxy {G:List V→M V} {wv:V} {ws:List ByteArray} (h:ReadAt H0 H R v st (view wv ws :: L)) (hs:Sm st 1000000) (hw:1≤ws.length) (hb:ws.length≤1000000) (hwz:∀ w∈ws,w.size≤1000000) (hk:wAt ws 0=zhz∨wAt ws 0=zkf∨wAt ws 0=zso) :
  zm4 H0 H R (view wv ws :: L) ((zm3 (ws.drop 1) 1).map fun l=>zo8 st (wAt ws 0) (l.getD 0 0)) (zei G zc3 [ptr R 0,wv]):=by
 intro Q hok hbad
 show wp (zmg G zc3 (ptr R 0) wv) Q H
 have hsl:=h.words
 obtain⟨u,hu,hus,_⟩:=zbd6 (α:=ByteArray) (n:=1) rfl hsl (k:=1) hw
 have hu':zh6 1 wv (some (Value.int .i64 1)) none=some u:=hu
 (try simp (maxSteps:=999999) (disch:=try exact ZD) only[ZB,zmg,hu'])
 refine zxr hus (by rw[List.length_drop];omega) (fun w hw=>hwz w (List.mem_of_mem_drop hw)) 1 _ (fun l hl w H1 k1 o1 f1=>?_) fun hn w H1 k1=>?_
 case refine_2 =>
  have r1:=h.keep0 k1
  (try simp (maxSteps:=999999) (disch:=try exact ZD) only[ZB])
  exact hbad (by rw[hn];rfl) _ r1.rest
 have hlen:=z04 hl
 have r1:=h.keep0 k1
 obtain⟨x0,y0⟩:=vd0 o1.sl (by omega)
 obtain⟨a0,b0⟩:=wd0 r1.words (by omega)
 have g:=r1.get
 have hlt:=r1.lt
 unfold RV.cells at g
 rw[hl] at hok
 have hon:=hs.once
 have e12:¬ zhz=zkf:=by decide
 have e13:¬ zhz=zso:=by decide
 have e23:¬ zkf=zso:=by decide
 rcases hk with hk | hk | hk
 ·rw[hk] at b0 hok
  have d1:decide (zhz=(⟨#[109,105,108,108,105,115]⟩:ByteArray))=true:=by decide
  (try simp (maxSteps:=999999) (disch:=try exact ZD) only[ZB,zhu,a0,b0,d1,x0,y0,g])
  have s2:=r1.hp.set (i:=0) rfl (v.cells { st with sy:={ st.sy with millis:=l.getD 0 0 } })
  unfold RV.cells at s2
  have r2:ReadAt H0 _ R v { st with sy:={ st.sy with millis:=l.getD 0 0 } } (view wv ws :: L):=⟨s2,r1.uns,r1.us⟩
  refine zbo6 r2 hon hw Q fun v' H' r3=>hok _ rfl v' H' ?_
  rw[hk] at r3
  show ReadAt H0 H' R v' (zo8 st zhz (l.getD 0 0)) _
  have e:zo8 st zhz (l.getD 0 0)={ st with sy:={ st.sy with millis:=l.getD 0 0 },once:=st.once ++ [zhz] } := by rw[zo8,if_pos rfl]
  rw[e];exact r3
 ·rw[hk] at b0 hok
  have d1:decide (zkf=(⟨#[109,105,108,108,105,115]⟩:ByteArray))=false:=by decide
  have d2:decide (zkf=(⟨#[102,114,97,109,101]⟩:ByteArray))=true:=by decide
  (try simp (maxSteps:=999999) (disch:=try exact ZD) only[ZB,zhu,a0,b0,d1,d2,x0,y0,g])
  have s2:=r1.hp.set (i:=0) rfl (v.cells { st with sy:={ st.sy with frame:=l.getD 0 0 } })
  unfold RV.cells at s2
  have r2:ReadAt H0 _ R v { st with sy:={ st.sy with frame:=l.getD 0 0 } } (view wv ws :: L):=⟨s2,r1.uns,r1.us⟩
  refine zbo6 r2 hon hw Q fun v' H' r3=>hok _ rfl v' H' ?_
  rw[hk] at r3
  show ReadAt H0 H' R v' (zo8 st zkf (l.getD 0 0)) _
  have e:zo8 st zkf (l.getD 0 0)={ st with sy:={ st.sy with frame:=l.getD 0 0 },once:=st.once ++ [zkf] } := by rw[zo8,if_neg (fun q=>e12 q.symm),if_pos rfl]
  rw[e];exact r3
 ·rw[hk] at b0 hok
  have d1:decide (zso=(⟨#[109,105,108,108,105,115]⟩:ByteArray))=false:=by decide
  have d2:decide (zso=(⟨#[102,114,97,109,101]⟩:ByteArray))=false:=by decide
  have d3:decide (zso=(⟨#[105,100,108,101]⟩:ByteArray))=true:=by decide
  (try simp (maxSteps:=999999) (disch:=try exact ZD) only[ZB,zhu,a0,b0,d1,d2,d3,x0,y0,g])
  have s2:=r1.hp.set (i:=0) rfl (v.cells { st with idle:=l.getD 0 0 })
  unfold RV.cells at s2
  have r2:ReadAt H0 _ R v { st with idle:=l.getD 0 0 } (view wv ws :: L):=⟨s2,r1.uns,r1.us⟩
  refine zbo6 r2 hon hw Q fun v' H' r3=>hok _ rfl v' H' ?_
  rw[hk] at r3
  show ReadAt H0 H' R v' (zo8 st zso (l.getD 0 0)) _
  have e:zo8 st zso (l.getD 0 0)={ st with idle:=l.getD 0 0,once:=st.once ++ [zso] } := by rw[zo8,if_neg (fun q=>e13 q.symm),if_neg (fun q=>e23 q.symm)]
  rw[e];exact r3
theorem Hp.nilAt {α:Type} [Flat α] {A B:List Thing} (h:Hp H0 H (A ++ B)):Hp H0 H (A ++ own (.slice none 0 0) ([]:List α) :: B):=(h.nilo (α:=α)).perm (List.perm_middle.symm)
theorem zbun (l:List Un) (u:Un):unT (l ++ [u])=unT l ++ [own u.ins.v u.ins.xs,own u.outs.v u.outs.xs]:=by simp[unT]
theorem zbuo (l:List Us) (u:Us):usT (l ++ [u])=usT l ++ [own u.rs.v u.rs.xs]:=by simp[usT]
def un0:Un:=⟨default,default⟩
theorem zb0g {uw:V} (s:Hp H0 H (cel R ({ v with uv:=uw }.cells st) :: own v.pv st.sy.pts :: own v.gv st.sy.grs :: own v.qv st.sy.prs :: own v.wv st.sy.wins :: own uw (v.uns ++ [un0]) :: own v.sv v.uz :: own v.ov st.once :: (unT v.uns ++ (usT v.uz ++ L)))) :
  Hp H0 H ({ v with uv:=uw,uns:=v.uns ++ [un0] }.things R (addU st) L):=by
 unfold RV.things
 rw[zbun]
 have s1:=Hp.nilAt (α:=Bd) (A:=cel R ({ v with uv:=uw }.cells st) :: own v.pv st.sy.pts :: own v.gv st.sy.grs :: own v.qv st.sy.prs :: own v.wv st.sy.wins :: own uw (v.uns ++ [un0]) :: own v.sv v.uz :: own v.ov st.once :: unT v.uns) (B:=usT v.uz ++ L) (by exact s)
 have s2:=Hp.nilAt (α:=Bd) s1
 rw[List.append_assoc]
 exact s2
theorem zb2z {wv:V} {ws:List ByteArray} (h:ReadAt H0 H R v st (view wv ws :: L)) (hs:Sm st 1000000):zm4 H0 H R (view wv ws :: L) (zbbo st ws) (zfo [ptr R 0,wv]):=by
 intro Q hok hbad
 show wp (zpd (ptr R 0) wv) Q H
 have hlen:=h.words.len
 have g:=h.get
 unfold RV.cells at g
 have hul:v.uns.length≤1000000:=by have:=hs.uns;rw[← h.uns,List.length_map] at this;exact this
 have eb:build [(Value.slice none 0 0:V),Value.slice none 0 0] []=some (.agg #[.slice none 0 0,.slice none 0 0]):=rfl
 (try simp (maxSteps:=999999) (disch:=try exact ZD) only[ZA,zbz,zo,zn,zi,zj,zg,ze,zpd,g,eb])
 have hf:zbu (rep 1 [(Value.slice none 0 0:V),Value.slice none 0 0]) [(0,2,.agg #[.slice none 0 0,.slice none 0 0])]=some (zbj ([un0]:List Un)):=by
  show zbu _ [(0,2,.agg ([.slice none 0 0,.slice none 0 0]:List V).toArray)]=_
  rw[zk (n:=2) rfl rfl (by decide),zb1]
  rfl
 refine zna (α:=Un) (n:=2) (ys:=[un0]) h.hp (i:=5) rfl rfl (by decide) hf rfl (by omega) (by omega) fun w2 H3 s2=>?_
 have g2:=s2.get (i:=0) rfl
 unfold RV.cells at g2
 have n2:=Heap.get_lt g2
 have ow:=(s2.own (i:=5) rfl).isOne
 (try simp (maxSteps:=999999) (disch:=try exact ZD) only[ZB,g2,hlen])
 simp only[ow,true_and]
 have s3:=s2.set (i:=0) rfl ({ v with uv:=w2 }.cells st)
 have s4:=zb0g (v:=v) (st:=st) (uw:=w2) (by exact s3)
 unfold RV.cells at s4 s3
 have r3:ReadAt H0 _ R { v with uv:=w2,uns:=v.uns ++ [un0] } (addU st) (view wv ws :: L):=⟨s4,by simp only[addU];rw[List.map_append,h.uns];rfl,h.us⟩
 by_cases c1:ws.length=1
 ·have e:zbbo st ws=some (addU st):=by rw[zbbo,if_pos c1]
  have e1:decide ((ws.length:Int)=1)=true:=decide_eq_true (by omega)
  (try simp (maxSteps:=999999) (disch:=try exact ZD) only[ZB,e1])
  exact hok _ e _ _ r3
 ·have e:zbbo st ws=none:=by rw[zbbo,if_neg c1]
  have e1:decide ((ws.length:Int)=1)=false:=decide_eq_false (by omega)
  (try simp (maxSteps:=999999) (disch:=try exact ZD) only[ZB,e1])
  exact hbad e _ r3.rest
theorem zb0h {sw:V} (name key:ByteArray) (s:Hp H0 H (cel R ({ v with sv:=sw }.cells st) :: own v.pv st.sy.pts :: own v.gv st.sy.grs :: own v.qv st.sy.prs :: own v.wv st.sy.wins :: own v.uv v.uns :: own sw (v.uz ++ [(⟨name,key,default⟩:Us)]) :: own v.ov st.once :: (unT v.uns ++ (usT v.uz ++ L)))) :
  Hp H0 H ({ v with sv:=sw,uz:=v.uz ++ [(⟨name,key,default⟩:Us)] }.things R (addS st ⟨name,key,[]⟩) L):=by
 unfold RV.things
 rw[zbuo]
 have s1:=Hp.nilAt (α:=Rl) (A:=cel R ({ v with sv:=sw }.cells st) :: own v.pv st.sy.pts :: own v.gv st.sy.grs :: own v.qv st.sy.prs :: own v.wv st.sy.wins :: own v.uv v.uns :: own sw (v.uz ++ [(⟨name,key,default⟩:Us)]) :: own v.ov st.once :: (unT v.uns ++ usT v.uz)) (B:=L) (by rw[← List.append_assoc] at s;exact s)
 rw[List.append_assoc,← List.append_assoc (unT _)]
 exact s1
theorem zb20 {G:List V→M V} {wv:V} {ws:List ByteArray} (h:ReadAt H0 H R v st (view wv ws :: L)) (hs:Sm st 1000000) (hwz:∀ w∈ws,w.size≤1000000):zm4 H0 H R (view wv ws :: L) (z2j st ws) (zfq G zx4 [ptr R 0,wv]):=by
 intro Q hok hbad
 show wp (zj3 G zx4 (ptr R 0) wv) Q H
 have hlen:=h.words.len
 by_cases c1:ws.length=3
 case neg =>
  have e:z2j st ws=none:=by rw[z2j,if_neg c1]
  have e1:decide ((ws.length:Int)≠3)=true:=decide_eq_true (by omega)
  (try simp (maxSteps:=999999) (disch:=try exact ZD) only[ZB,zj3,hlen,e1])
  exact hbad e _ h.rest
 have e1:decide ((ws.length:Int)≠3)=false:=decide_eq_false (by omega)
 obtain⟨a2,b2⟩:=wd h.words (i:=2) (n:=2) (by omega) rfl
 (try simp (maxSteps:=999999) (disch:=try exact ZD) only[ZA,zbz,zo,zn,zm,zi,zj,zg,ze,zj3,hlen,e1,zur,a2,b2])
 have hul:v.uz.length≤1000000:=by have:=hs.us;rw[← h.us,List.length_map] at this;exact this
 have fin:∀ (key:ByteArray) (ok:Bool) (H1:Heap),Keeps [] H H1→(∀ v' H',ReadAt H0 H' R v' (addS st ⟨wAt ws 1,key,[]⟩) (view wv ws :: L)→Q (.bool ok) H') →
   wp (zh0 fun h0 =>
 zb (za (zb2 (ptr R 0))) fun x19 =>
 zb (za (zf 0 x19)) fun x20 =>
 zb (za (zf 7 x20)) fun x21 =>
 zb (za (zr 1 wv (Value.int .i64 1))) fun x24 =>
 zb (zz x21) fun x22 =>
 zb (zz x24) fun x25 =>
 zb (za (build [Value.string ⟨#[]⟩,Value.string ⟨#[]⟩,Value.slice none 0 0] [(0,1,x25),(1,1,.string key)])) fun x27 =>
 zbw (zcc 3 1 (rep 1 [Value.string ⟨#[]⟩,Value.string ⟨#[]⟩,Value.slice none 0 0]) [(0,3,x27)]) fun ha x28 h1 =>
 zbw (zd0 3 56 x22 x28) fun ha_2 x29 h2 =>
 zb (za (zb2 (ptr R 0))) fun x30 =>
 zb (za (zf 0 x30)) fun x31 =>
 zb (za (zf 7 x31)) fun x32 =>
 zbw (st1 x32 x29) fun ha_3 u h3 =>
 zdj (chk (zz x21) h1 x22) <|
 ret (.ret [.bool ok])) (fun o H'=>wp (zbk o fun vs=>ret (zbi [zd vs 0])) Q H') H1:=by
  intro key ok H1 k1 hfin
  have r1:=h.keep0 k1
  obtain⟨a1,b1⟩:=wd r1.words (i:=1) (n:=1) (by omega) rfl
  have g:=r1.get
  have hone:=r1.hp.own (i:=6) rfl
  unfold RV.cells at g
  (try simp (maxSteps:=999999) (disch:=try exact ZD) only[ZA,zbz,zo,zn,zm,zi,zj,zg,ze,g,a1,b1])
  have hf:zbu (rep 1 [Value.string ⟨#[]⟩,Value.string ⟨#[]⟩,Value.slice none 0 0]) [(0,3,.agg #[.string (wAt ws 1),.string key,.slice none 0 0])]=some (zbj ([⟨wAt ws 1,key,default⟩]:List Us)):=by
   show zbu _ [(0,3,.agg ([.string (wAt ws 1),.string key,.slice none 0 0]:List V).toArray)]=_
   rw[zk (n:=3) rfl rfl (by decide),zb1]
   rfl
  refine zr6 (α:=Us) (n:=3) (ys:=[⟨wAt ws 1,key,default⟩]) r1.hp (i:=6) rfl rfl (by decide) hf rfl (by omega) (by decide) fun w2 H2 H3 k2 s2=>?_
  have g1:=k2.get r1.get (by simp)
  have ck:zie (zes (H2.get R) 7) v.sv=true:=by rw[g1];exact zi3 hone.sl
  have g2:=s2.get (i:=0) rfl
  unfold RV.cells at g2
  have n2:=Heap.get_lt g2
  have ow:=(s2.own (i:=6) rfl).isOne
  (try simp (maxSteps:=999999) (disch:=try exact ZD) only[ZB,g2])
  simp only[ow,true_and]
  have s3:=s2.set (i:=0) rfl ({ v with sv:=w2 }.cells st)
  have s4:=zb0h (v:=v) (st:=st) (sw:=w2) (wAt ws 1) key (by exact s3)
  unfold RV.cells at s4 s3
  have r3:ReadAt H0 _ R { v with sv:=w2,uz:=v.uz ++ [⟨wAt ws 1,key,default⟩] } (addS st ⟨wAt ws 1,key,[]⟩) (view wv ws :: L):=⟨s4,h.uns,by simp only[addS];rw[List.map_append,h.us];rfl⟩
  (try simp (maxSteps:=999999) (disch:=try exact ZD) only[ZB,ck])
  exact hfin _ _ r3
 refine zb0d (wAt ws 2) (hwz _ (zbd8 (by omega))) _ (fun r hr H1 k1=>?_) fun hn H1 k1=>?_
 ·have e:z2j st ws=some (addS st ⟨wAt ws 1,sv r,[]⟩):=by rw[z2j,if_pos c1,hr]
  have:=fin (sv r) true H1 k1 fun v' H' r3=>hok _ e v' H' r3
  (try simp (maxSteps:=999999) (disch:=try exact ZD) only[ZA,zbz,zo,zn,zm,zi,zj,zg,ze] at this)
  (try simp (maxSteps:=999999) (disch:=try exact ZD) only[ZA,zbz,zo,zn,zm,zi,zj,zg,ze])
  exact this
 ·have e:z2j st ws=none:=by rw[z2j,if_pos c1,hn]
  have:=fin zol false H1 k1 fun v' H' r3=>hbad e H' r3.rest
  (try simp (maxSteps:=999999) (disch:=try exact ZD) only[ZA,zbz,zo,zn,zm,zi,zj,zg,ze] at this)
  (try simp (maxSteps:=999999) (disch:=try exact ZD) only[ZA,zbz,zo,zn,zm,zi,zj,zg,ze])
  exact this
end Go.AM.Cap
