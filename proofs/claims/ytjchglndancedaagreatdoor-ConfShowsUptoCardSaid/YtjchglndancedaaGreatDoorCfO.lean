import Derived.Test.YtjchglndancedaaGreatDoorCfM
import Derived.Test.YtjchglndancedaaGreatDoorAmIn
set_option linter.all false
/- conf: the reader; lines of one thing -/
set_option maxHeartbeats 8000000
namespace Go.AM.Cap
open Go.AM Go.Proofs
theorem zr6 {α:Type} [Flat α] {H0 H:Heap} {L:List Thing} {v:V} {xs ys:List α} {n m bytes i:Nat} {zero:List V} {parts:List (Nat × Nat × V)} {Q:V→Heap→Heap→Prop} (h:Hp H0 H L) (hi:L[i]? = some (Go.AM.own v xs)) (hs:Flat.size α=n) (hz:zero.all zge=true) (hf:zbu zero parts=some (zbj ys)) (hm:ys.length=m) (hb:xs.length + m≤10000000) (hby:bytes≤1000)
  (hQ:∀ w H1 H',Keeps [] H H1→Hp H0 H' (L.set i (Go.AM.own w (xs ++ ys)))→Q w H1 H'):wp (zcc n m zero parts) (fun x H1=>wp (zd0 n bytes v x) (fun w H'=>Q w H1 H') H1) H:=by
 refine (zdf hz hf).mpr ?_
 have k1:Keeps [] H (H.push (some (.cells true (zbj ys)))):=Keeps.push _ _ _
 have s1:=h.newo (n:=n) (m:=m) ys hs hm
 generalize H.push (some (.cells true (zbj ys)))=H1 at *
 have hmul:(xs.length + ys.length) * bytes≤10000000 * 1000:=Nat.mul_le_mul (by omega) hby
 refine z1l s1 (i:=i + 1) (by rw[List.getElem?_cons_succ];exact hi) hs (s1.own (i:=0) rfl).sl (by omega) (by omega) fun w H' s2=>?_
 rw[List.set_cons_succ] at s2
 exact hQ w H1 H' k1 s2.tail
theorem zi3 {α:Type} [Flat α] {H:Heap} {v:V} {l:List α} (h:Sl H v l):zie (some v) v=true:=by
 rcases h with⟨rfl,_⟩ | ⟨b,o,u,c,rfl,_⟩ <;> simp[zie,vEq]
structure RV where
 pv:V
 gv:V
 qv:V
 wv:V
 uv:V
 sv:V
 ov:V
 uns:List Un
 uz:List Us
def RV.cells (v:RV) (st:RSt):List V:=[v.pv,v.gv,v.qv,i64 st.sy.frame,v.wv,v.uv,i64 st.sy.millis,v.sv,i64 st.idle,v.ov]
def unT (l:List Un):List Thing:=l.flatMap fun u=>[own u.ins.v u.ins.xs,own u.outs.v u.outs.xs]
def usT (l:List Us):List Thing:=l.map fun u=>own u.rs.v u.rs.xs
def RV.things (R:Nat) (v:RV) (st:RSt) (L:List Thing):List Thing :=
 cel R (v.cells st) :: own v.pv st.sy.pts :: own v.gv st.sy.grs :: own v.qv st.sy.prs :: own v.wv st.sy.wins :: own v.uv v.uns :: own v.sv v.uz :: own v.ov st.once :: (unT v.uns ++ (usT v.uz ++ L))
structure ReadAt (H0 H:Heap) (R:Nat) (v:RV) (st:RSt) (L:List Thing):Prop where
 hp:Hp H0 H (v.things R st L)
 uns:v.uns.map Un.p=st.sy.uns
 us:v.uz.map Us.p=st.us
structure Sm (st:RSt) (k:Nat):Prop where
 pts:st.sy.pts.length≤k
 grs:st.sy.grs.length≤k
 prs:st.sy.prs.length≤k
 wins:st.sy.wins.length≤k
 uns:st.sy.uns.length≤k
 us:st.us.length≤k
 once:st.once.length≤k
 inn:∀ u∈st.sy.uns,u.ins.length≤k∧u.outs.length≤k
 rol:∀ u∈st.us,u.rs.length≤k
variable {H0 H:Heap} {R:Nat} {v:RV} {st:RSt} {L:List Thing}
theorem ReadAt.keep0 {H':Heap} (h:ReadAt H0 H R v st L) (hk:Keeps [] H H'):ReadAt H0 H' R v st L:=⟨h.hp.keep0 hk,h.uns,h.us⟩
theorem ReadAt.get (h:ReadAt H0 H R v st L):H.get R=some (.cells true (v.cells st)):=h.hp.get (i:=0) rfl
theorem ReadAt.lt (h:ReadAt H0 H R v st L):R < H.next:=Heap.get_lt h.get
theorem ReadAt.rest (h:ReadAt H0 H R v st L):Hp H0 H L:=by
 refine h.hp.sub ?_
 unfold RV.things
 refine List.Sublist.trans ?_ (List.sublist_cons_self _ _)
 refine List.Sublist.trans ?_ (List.sublist_cons_self _ _)
 refine List.Sublist.trans ?_ (List.sublist_cons_self _ _)
 refine List.Sublist.trans ?_ (List.sublist_cons_self _ _)
 refine List.Sublist.trans ?_ (List.sublist_cons_self _ _)
 refine List.Sublist.trans ?_ (List.sublist_cons_self _ _)
 refine List.Sublist.trans ?_ (List.sublist_cons_self _ _)
 refine List.Sublist.trans ?_ (List.sublist_cons_self _ _)
 exact (List.sublist_append_right _ _).trans (List.sublist_append_right _ _)
theorem ReadAt.words {wv:V} {ws:List ByteArray} (h:ReadAt H0 H R v st (view wv ws :: L)):Sl H wv ws:=h.rest.view (i:=0) rfl
def zm4 (H0 H:Heap) (R:Nat) (L:List Thing) (r:Option RSt) (m:M V):Prop :=
 ∀ Q:V→Heap→Prop,(∀ st',r=some st'→∀ v' H',ReadAt H0 H' R v' st' L→Q (.bool true) H')→(r=none→∀ H',Hp H0 H' L→Q (.bool false) H')→wp m Q H
theorem zb0e {wv:V} {ws:List ByteArray} (hT:Tabs H0) (h:ReadAt H0 H R v st (view wv ws :: L)) (hs:Sm st 1000000) (hw:1≤ws.length):zm4 H0 H R (view wv ws :: L) (zvp st ws) (ze5 [ptr R 0,wv]):=by
 intro Q hok hbad
 show wp (zi1 (ptr R 0) wv) Q H
 have hsl:=h.words
 have hlen:=hsl.len
 by_cases c1:ws.length=2
 case neg =>
  have e:zvp st ws=none:=by rw[zvp,if_neg (fun q=>c1 q.1)]
  have e1:decide ((ws.length:Int)≠2)=true:=decide_eq_true (by omega)
  (try simp (maxSteps:=999999) (disch:=try exact ZD) only[ZB,zi1,hlen,e1])
  exact hbad e _ h.rest
 have e1:decide ((ws.length:Int)≠2)=false:=decide_eq_false (by omega)
 obtain⟨a1,b1⟩:=wd hsl (i:=1) (n:=1) (by omega) rfl
 obtain⟨a0,b0⟩:=wd0 hsl (by omega)
 (try simp (maxSteps:=999999) (disch:=try exact ZD) only[ZB,zi1,hlen,e1,zty,a1,b1])
 refine zbvp (hT.keep0 h.hp.keeps) (wAt ws 1) _ ?_
 have g:=h.get
 have hone:=(h.hp.own (i:=1) rfl)
 unfold RV.cells at g
 (try simp (maxSteps:=999999) (disch:=try exact ZD) only[ZA,zbz,zo,zn,zm,zi,zj,zg,ze,g,a0,b0])
 have hf:zbu (rep 1 [Value.int .i64 0,Value.bool false]) [(0,2,.agg #[i64 (zgk (wAt ws 1)),.bool (decide (wAt ws 0=(⟨#[111,117,116]⟩:ByteArray)))])]=some (zbj ([⟨zgk (wAt ws 1),decide (wAt ws 0=kOut)⟩]:List Pt)):=by
  show zbu _ [(0,2,.agg ([i64 (zgk (wAt ws 1)),.bool (decide (wAt ws 0=kOut))]:List V).toArray)]=_
  rw[zk (n:=2) rfl rfl (by decide),zb1]
  rfl
 refine zr6 (α:=Pt) (n:=2) (ys:=[⟨zgk (wAt ws 1),decide (wAt ws 0=kOut)⟩]) h.hp (i:=1) rfl rfl (by decide) hf rfl (by have:=hs.pts;omega) (by decide) fun w H1 H2 k1 s2=>?_
 have g1:=k1.get h.get (by simp)
 have ck:zie (zes (H1.get R) 0) v.pv=true:=by rw[g1];exact zi3 hone.sl
 have g2:=s2.get (i:=0) rfl
 unfold RV.cells at g2
 have n2:=Heap.get_lt g2
 have ow:=(s2.own (i:=1) rfl).isOne
 (try simp (maxSteps:=999999) (disch:=try exact ZD) only[ZB,g2])
 simp only[ow,true_and]
 have s3:=s2.set (i:=0) rfl ({ v with pv:=w }.cells (addP st ⟨zgk (wAt ws 1),decide (wAt ws 0=kOut)⟩))
 unfold RV.cells at s3
 by_cases c2:zgk (wAt ws 1)=0
 ·have e:zvp st ws=none:=by rw[zvp,if_neg (fun q=>q.2 c2)]
  have ed:decide (zgk (wAt ws 1)≠0)=false:=decide_eq_false (fun q=>q c2)
  rw[ed]
  have r3:ReadAt H0 _ R { v with pv:=w } (addP st ⟨zgk (wAt ws 1),decide (wAt ws 0=kOut)⟩) (view wv ws :: L):=⟨s3,h.uns,h.us⟩
  (try simp (maxSteps:=999999) (disch:=try exact ZD) only[ZB,ck])
  exact hbad e _ r3.rest
 ·have e:zvp st ws=some (addP st ⟨zgk (wAt ws 1),decide (wAt ws 0=kOut)⟩):=by rw[zvp,if_pos ⟨c1,c2⟩]
  have ed:decide (zgk (wAt ws 1)≠0)=true:=decide_eq_true c2
  rw[ed]
  have r3:ReadAt H0 _ R { v with pv:=w } (addP st ⟨zgk (wAt ws 1),decide (wAt ws 0=kOut)⟩) (view wv ws :: L):=⟨s3,h.uns,h.us⟩
  (try simp (maxSteps:=999999) (disch:=try exact ZD) only[ZB,ck])
  exact hok _ e _ _ r3
theorem vd {l:List Int} {v:V} (h:Sl H v l) {i:Nat} {n:Int} (hi:i < l.length) (hn:n=(i:Int)):zr 1 v (.int .i64 n)=some (ptr (slB v) (slO v + i))∧zes (H.get (slB v)) (slO v + i)=some (i64 (l.getD i 0)):=by
 subst hn
 have a1:=h.addr1 rfl (k := .i64) (i:=i) (by omega) (by omega)
 rw[Int.toNat_natCast] at a1
 have c1:=h.cell1 rfl hi 0
 rw[zbd] at c1
 exact⟨a1,c1⟩
theorem vd0 {l:List Int} {v:V} (h:Sl H v l) (hi:0 < l.length):zr 1 v (.int .i64 0)=some (ptr (slB v) (slO v))∧zes (H.get (slB v)) (slO v)=some (i64 (l.getD 0 0)):=vd h hi rfl
theorem z04 {ws:List ByteArray} {n:Nat} {l:List Int} (h:zm3 ws n=some l):l.length=n:=by
 unfold zm3 at h
 by_cases c:ws.all (fun w=>(zz3 w).2)=true∧ws.length=n
 ·rw[if_pos c] at h;cases h;rw[List.length_map];exact c.2
 ·rw[if_neg c] at h;cases h
end Go.AM.Cap

/- conf: lines of numbers (printed by gencf.py) -/
set_option maxHeartbeats 8000000
namespace Go.AM.Cap
open Go.AM Go.Proofs
variable {H0 H:Heap} {R:Nat} {v:RV} {st:RSt} {L:List Thing}
theorem zb0f {G:List V→M V} {wv:V} {ws:List ByteArray} (h:ReadAt H0 H R v st (view wv ws :: L)) (hs:Sm st 1000000) (hw:1≤ws.length) (hb:ws.length≤1000000) (hwz:∀ w∈ws,w.size≤1000000):zm4 H0 H R (view wv ws :: L) (z2i st ws) (ze6 G zc3 [ptr R 0,wv]):=by
 intro Q hok hbad
 show wp (zn8 G zc3 (ptr R 0) wv) Q H
 have hsl:=h.words
 obtain⟨u,hu,hus,_⟩:=zbd6 (α:=ByteArray) (n:=1) rfl hsl (k:=1) hw
 have hu':zh6 1 wv (some (Value.int .i64 1)) none=some u:=hu
 (try simp (maxSteps:=999999) (disch:=try exact ZD) only[ZA,zbz,zo,zn,zm,zi,zj,zg,ze,zn8,hu'])
 refine zxr hus (by rw[List.length_drop];omega) (fun w hw=>hwz w (List.mem_of_mem_drop hw)) 2 _ (fun l hl w H1 k1 o1 f1=>?_) fun hn w H1 k1=>?_
 case refine_2 =>
  have e:z2i st ws=none:=by rw[z2i,hn]
  have r1:=h.keep0 k1
  (try simp (maxSteps:=999999) (disch:=try exact ZD) only[ZB,zmh])
  exact hbad e _ r1.rest
 have hlen:=z04 hl
 have r1:=h.keep0 k1
 have e:z2i st ws=some (addG st ⟨l.getD 0 0,l.getD 1 0,decide (wAt ws 0=zs5)⟩):=by rw[z2i,hl]
 have g:=r1.get
 have hone:=r1.hp.own (i:=2) rfl
 obtain⟨x0,y0⟩:=vd0 o1.sl (by omega)
 obtain⟨x1,y1⟩:=vd o1.sl (i:=1) (n:=1) (by omega) rfl
 obtain⟨a0,b0⟩:=wd0 r1.words (by omega)
 unfold RV.cells at g
 (try simp (maxSteps:=999999) (disch:=try exact ZD) only[ZA,zbz,zo,zn,zm,zi,zj,zg,ze,g,x0,y0,x1,y1,a0,b0])
 have hf:zbu (rep 1 [Value.int .i64 0,Value.int .i64 0,Value.bool false]) [(0,3,.agg #[i64 (l.getD 0 0),i64 (l.getD 1 0),.bool (decide (wAt ws 0=zs5))])]=some (zbj ([⟨l.getD 0 0,l.getD 1 0,decide (wAt ws 0=zs5)⟩]:List Gr)):=by
  show zbu _ [(0,3,.agg ([i64 (l.getD 0 0),i64 (l.getD 1 0),.bool (decide (wAt ws 0=zs5))]:List V).toArray)]=_
  rw[zk (n:=3) rfl rfl (by decide),zb1]
  rfl
 refine zr6 (α:=Gr) (n:=3) (ys:=[⟨l.getD 0 0,l.getD 1 0,decide (wAt ws 0=zs5)⟩]) r1.hp (i:=2) rfl rfl (by decide) hf rfl (by have:=hs.grs;omega) (by decide) fun w2 H2 H3 k2 s2=>?_
 have g1:=k2.get r1.get (by simp)
 have ck:zie (zes (H2.get R) 1) v.gv=true:=by rw[g1];exact zi3 hone.sl
 have g2:=s2.get (i:=0) rfl
 unfold RV.cells at g2
 have n2:=Heap.get_lt g2
 have ow:=(s2.own (i:=2) rfl).isOne
 (try simp (maxSteps:=999999) (disch:=try exact ZD) only[ZB,g2])
 simp only[ow,true_and]
 have s3:=s2.set (i:=0) rfl ({ v with gv:=w2 }.cells (addG st ⟨l.getD 0 0,l.getD 1 0,decide (wAt ws 0=zs5)⟩))
 unfold RV.cells at s3
 have r3:ReadAt H0 _ R { v with gv:=w2 } (addG st ⟨l.getD 0 0,l.getD 1 0,decide (wAt ws 0=zs5)⟩) (view wv ws :: L):=⟨s3,r1.uns,r1.us⟩
 (try simp (maxSteps:=999999) (disch:=try exact ZD) only[ZB,ck,zmh])
 exact hok _ e _ _ r3
theorem zbxx {G:List V→M V} {wv:V} {ws:List ByteArray} (h:ReadAt H0 H R v st (view wv ws :: L)) (hs:Sm st 1000000) (hw:1≤ws.length) (hb:ws.length≤1000000) (hwz:∀ w∈ws,w.size≤1000000):zm4 H0 H R (view wv ws :: L) (zxq st ws) (zej G zc3 [ptr R 0,wv]):=by
 intro Q hok hbad
 show wp (zmi G zc3 (ptr R 0) wv) Q H
 have hsl:=h.words
 obtain⟨u,hu,hus,_⟩:=zbd6 (α:=ByteArray) (n:=1) rfl hsl (k:=1) hw
 have hu':zh6 1 wv (some (Value.int .i64 1)) none=some u:=hu
 (try simp (maxSteps:=999999) (disch:=try exact ZD) only[ZA,zbz,zo,zn,zm,zi,zj,zg,ze,zmi,hu'])
 refine zxr hus (by rw[List.length_drop];omega) (fun w hw=>hwz w (List.mem_of_mem_drop hw)) 3 _ (fun l hl w H1 k1 o1 f1=>?_) fun hn w H1 k1=>?_
 case refine_2 =>
  have e:zxq st ws=none:=by rw[zxq,hn]
  have r1:=h.keep0 k1
  (try simp (maxSteps:=999999) (disch:=try exact ZD) only[ZB,zk6])
  exact hbad e _ r1.rest
 have hlen:=z04 hl
 have r1:=h.keep0 k1
 have e:zxq st ws=some (addW st ⟨l.getD 0 0,l.getD 1 0,l.getD 2 0⟩):=by rw[zxq,hl]
 have g:=r1.get
 have hone:=r1.hp.own (i:=4) rfl
 obtain⟨x0,y0⟩:=vd0 o1.sl (by omega)
 obtain⟨x1,y1⟩:=vd o1.sl (i:=1) (n:=1) (by omega) rfl
 obtain⟨x2,y2⟩:=vd o1.sl (i:=2) (n:=2) (by omega) rfl
 unfold RV.cells at g
 (try simp (maxSteps:=999999) (disch:=try exact ZD) only[ZA,zbz,zo,zn,zm,zi,zj,zg,ze,g,x0,y0,x1,y1,x2,y2])
 have hf:zbu (rep 1 [Value.int .i64 0,Value.int .i64 0,Value.int .i64 0]) [(0,3,.agg #[i64 (l.getD 0 0),i64 (l.getD 1 0),i64 (l.getD 2 0)])]=some (zbj ([⟨l.getD 0 0,l.getD 1 0,l.getD 2 0⟩]:List Win)):=by
  show zbu _ [(0,3,.agg ([i64 (l.getD 0 0),i64 (l.getD 1 0),i64 (l.getD 2 0)]:List V).toArray)]=_
  rw[zk (n:=3) rfl rfl (by decide),zb1]
  rfl
 refine zr6 (α:=Win) (n:=3) (ys:=[⟨l.getD 0 0,l.getD 1 0,l.getD 2 0⟩]) r1.hp (i:=4) rfl rfl (by decide) hf rfl (by have:=hs.wins;omega) (by decide) fun w2 H2 H3 k2 s2=>?_
 have g1:=k2.get r1.get (by simp)
 have ck:zie (zes (H2.get R) 4) v.wv=true:=by rw[g1];exact zi3 hone.sl
 have g2:=s2.get (i:=0) rfl
 unfold RV.cells at g2
 have n2:=Heap.get_lt g2
 have ow:=(s2.own (i:=4) rfl).isOne
 (try simp (maxSteps:=999999) (disch:=try exact ZD) only[ZB,g2])
 simp only[ow,true_and]
 have s3:=s2.set (i:=0) rfl ({ v with wv:=w2 }.cells (addW st ⟨l.getD 0 0,l.getD 1 0,l.getD 2 0⟩))
 unfold RV.cells at s3
 have r3:ReadAt H0 _ R { v with wv:=w2 } (addW st ⟨l.getD 0 0,l.getD 1 0,l.getD 2 0⟩) (view wv ws :: L):=⟨s3,r1.uns,r1.us⟩
 (try simp (maxSteps:=999999) (disch:=try exact ZD) only[ZB,ck,zk6])
 exact hok _ e _ _ r3
theorem zb2y {G:List V→M V} {wv:V} {ws:List ByteArray} (h:ReadAt H0 H R v st (view wv ws :: L)) (hs:Sm st 1000000) (hw:1≤ws.length) (hb:ws.length≤1000000) (hwz:∀ w∈ws,w.size≤1000000):zm4 H0 H R (view wv ws :: L) (zbbn st ws) (zde G zc3 [ptr R 0,wv]):=by
 intro Q hok hbad
 show wp (zjb G zc3 (ptr R 0) wv) Q H
 have hsl:=h.words
 obtain⟨u,hu,hus,_⟩:=zbd6 (α:=ByteArray) (n:=1) rfl hsl (k:=1) hw
 have hu':zh6 1 wv (some (Value.int .i64 1)) none=some u:=hu
 (try simp (maxSteps:=999999) (disch:=try exact ZD) only[ZA,zbz,zo,zn,zm,zi,zj,zg,ze,zjb,hu'])
 refine zxr hus (by rw[List.length_drop];omega) (fun w hw=>hwz w (List.mem_of_mem_drop hw)) 2 _ (fun l hl w H1 k1 o1 f1=>?_) fun hn w H1 k1=>?_
 case refine_2 =>
  have e:zbbn st ws=none:=by rw[zbbn,hn]
  have r1:=h.keep0 k1
  (try simp (maxSteps:=999999) (disch:=try exact ZD) only[ZB,zit])
  exact hbad e _ r1.rest
 have hlen:=z04 hl
 have r1:=h.keep0 k1
 have e:zbbn st ws=some (addW st ⟨-1,l.getD 0 0,l.getD 1 0⟩):=by rw[zbbn,hl]
 have g:=r1.get
 have hone:=r1.hp.own (i:=4) rfl
 obtain⟨x0,y0⟩:=vd0 o1.sl (by omega)
 obtain⟨x1,y1⟩:=vd o1.sl (i:=1) (n:=1) (by omega) rfl
 unfold RV.cells at g
 (try simp (maxSteps:=999999) (disch:=try exact ZD) only[ZA,zbz,zo,zn,zm,zi,zj,zg,ze,g,x0,y0,x1,y1])
 have hf:zbu (rep 1 [Value.int .i64 0,Value.int .i64 0,Value.int .i64 0]) [(0,3,.agg #[i64 (-1),i64 (l.getD 0 0),i64 (l.getD 1 0)])]=some (zbj ([⟨-1,l.getD 0 0,l.getD 1 0⟩]:List Win)):=by
  show zbu _ [(0,3,.agg ([i64 (-1),i64 (l.getD 0 0),i64 (l.getD 1 0)]:List V).toArray)]=_
  rw[zk (n:=3) rfl rfl (by decide),zb1]
  rfl
 refine zr6 (α:=Win) (n:=3) (ys:=[⟨-1,l.getD 0 0,l.getD 1 0⟩]) r1.hp (i:=4) rfl rfl (by decide) hf rfl (by have:=hs.wins;omega) (by decide) fun w2 H2 H3 k2 s2=>?_
 have g1:=k2.get r1.get (by simp)
 have ck:zie (zes (H2.get R) 4) v.wv=true:=by rw[g1];exact zi3 hone.sl
 have g2:=s2.get (i:=0) rfl
 unfold RV.cells at g2
 have n2:=Heap.get_lt g2
 have ow:=(s2.own (i:=4) rfl).isOne
 (try simp (maxSteps:=999999) (disch:=try exact ZD) only[ZB,g2])
 simp only[ow,true_and]
 have s3:=s2.set (i:=0) rfl ({ v with wv:=w2 }.cells (addW st ⟨-1,l.getD 0 0,l.getD 1 0⟩))
 unfold RV.cells at s3
 have r3:ReadAt H0 _ R { v with wv:=w2 } (addW st ⟨-1,l.getD 0 0,l.getD 1 0⟩) (view wv ws :: L):=⟨s3,r1.uns,r1.us⟩
 (try simp (maxSteps:=999999) (disch:=try exact ZD) only[ZB,ck,zit])
 exact hok _ e _ _ r3
end Go.AM.Cap
