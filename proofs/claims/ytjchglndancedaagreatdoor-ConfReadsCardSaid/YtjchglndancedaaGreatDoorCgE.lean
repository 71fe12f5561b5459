import Derived.Test.YtjchglndancedaaGreatDoorCgC
import Derived.Test.YtjchglndancedaaGreatDoorAmOpenF
set_option linter.all false
/- conf, the document: lines of windows (printed by gencg.py) -/
set_option maxHeartbeats 16000000
namespace Go.AM.Cap
open Go.AM Go.Proofs
variable {H0 H:Heap} {R:Nat} {v:RV} {st:RSt} {L:List Thing}
def k0S:ByteArray:=⟨#[48]⟩
theorem zbnr (l:List ByteArray) (n:Nat):zds (k0S :: l) (n + 1)=(zds l n).map fun x=>0 :: x:=by
 have h0:zhm k0S=(0,true):=by decide
 unfold zds
 by_cases h:l.all (fun w=>(zhm w).2)=true∧l.length=n
 ·rw[if_pos h,if_pos ⟨by rw[List.all_cons,h0,h.1];rfl,by rw[List.length_cons,h.2]⟩,List.map_cons,h0];rfl
 ·rw[if_neg h,if_neg]
  ·rfl
  ·rintro⟨q1,q2⟩
   rw[List.all_cons,h0] at q1
   exact h ⟨by simpa using q1,by simpa using q2⟩
theorem zb23 {wv:V} {ws:List ByteArray} (h:ReadAt H0 H R v st (view wv ws :: L)) (hs:Sm st 1000000) (hw:1≤ws.length) (hb:ws.length≤900000) (hk:z8 ws 0=zfh):zfp H0 H R (view wv ws :: L) (zj2 st ws) (zfo [ptr R 0,wv]):=by
 intro Q hok hbad
 show wp (zfn (ptr R 0) wv) Q H
 have hsl:=h.words
 obtain⟨a0,b0⟩:=wd0 hsl (by omega)
 rw[hk] at b0
 have d1:decide (zfh=(⟨#[101,110,103,105,110,101,101,114,115]⟩:ByteArray))=false:=by decide
 (try simp(maxSteps:=1000000)(disch:=first|omega|(simp only[Z3];omega)|(simp;done)|assumption|decide|(apply not_not_intro;assumption))only[ZB,zfn,a0,b0,d1,zrh])
 refine zbf3 hsl (by omega) 1 3 hw (by omega) _ (fun l hl w H1 k1 o1 f1=>?_) fun hn w H1 k1=>?_
 case refine_2 =>
  have e:zj2 st ws=none:=by rw[zj2,hn]
  have r1:=h.keep0 k1
  (try simp(maxSteps:=1000000)(disch:=first|omega|(simp only[Z3];omega)|(simp;done)|assumption|decide|(apply not_not_intro;assumption))only[ZB,zko])
  exact hbad e _ r1.rest
 have hlen:=zlc hl
 have r1:=h.keep0 k1
 have e:zj2 st ws=some (addW st ⟨l.getD 0 0,l.getD 1 0,l.getD 2 0⟩):=by rw[zj2,hl]
 have g:=r1.get
 have hone:=r1.hp.own (i:=4) rfl
 obtain⟨x0,y0⟩:=vd0 o1.sl (by omega)
 obtain⟨x1,y1⟩:=vd o1.sl (i:=1) (n:=1) (by omega) rfl
 obtain⟨x2,y2⟩:=vd o1.sl (i:=2) (n:=2) (by omega) rfl
 unfold RV.cells at g
 (try simp(maxSteps:=1000000)(disch:=first|omega|(simp only[Z3];omega)|(simp;done)|assumption|decide|(apply not_not_intro;assumption))only[ZA,zbh,zp,zo,zm,zf,zg,zh,zd,g,x0,y0,x1,y1,x2,y2])
 have hf:zbn (rep 1 [Value.int .i64 0,Value.int .i64 0,Value.int .i64 0]) [(0,3,.agg #[i64 (l.getD 0 0),i64 (l.getD 1 0),i64 (l.getD 2 0)])]=some (zbm ([⟨l.getD 0 0,l.getD 1 0,l.getD 2 0⟩]:List Win)):=by
  show zbn _ [(0,3,.agg ([i64 (l.getD 0 0),i64 (l.getD 1 0),i64 (l.getD 2 0)]:List V).toArray)]=_
  rw[zi (n:=3) rfl rfl (by decide),zba]
  rfl
 refine zgl (α:=Win) (n:=3) (ys:=[⟨l.getD 0 0,l.getD 1 0,l.getD 2 0⟩]) r1.hp (i:=4) rfl rfl (by decide) hf rfl (by have:=hs.wins;omega) (by decide) fun w2 H2 H3 k2 s2=>?_
 have g1:=k2.get r1.get (by simp)
 have ck:zgm (zdk (H2.get R) 4) v.wv=true:=by rw[g1];exact zen hone.sl
 have g2:=s2.get (i:=0) rfl
 unfold RV.cells at g2
 have n2:=Heap.get_lt g2
 have ow:=(s2.own (i:=4) rfl).isOne
 (try simp(maxSteps:=1000000)(disch:=first|omega|(simp only[Z3];omega)|(simp;done)|assumption|decide|(apply not_not_intro;assumption))only[ZB,g2])
 simp only[ow,true_and]
 have s3:=s2.set (i:=0) rfl ({ v with wv:=w2 }.cells (addW st ⟨l.getD 0 0,l.getD 1 0,l.getD 2 0⟩))
 unfold RV.cells at s3
 have r3:ReadAt H0 _ R { v with wv:=w2 } (addW st ⟨l.getD 0 0,l.getD 1 0,l.getD 2 0⟩) (view wv ws :: L):=⟨s3,r1.uns,r1.us⟩
 (try simp(maxSteps:=1000000)(disch:=first|omega|(simp only[Z3];omega)|(simp;done)|assumption|decide|(apply not_not_intro;assumption))only[ZB,ck,zko])
 exact hok _ e _ _ r3
theorem zb24 {wv:V} {ws:List ByteArray} (h:ReadAt H0 H R v st (view wv ws :: L)) (hs:Sm st 1000000) (hw:1≤ws.length) (hb:ws.length≤900000) (hk:z8 ws 0=zse):zfp H0 H R (view wv ws :: L) (zsy st ws) (zfo [ptr R 0,wv]):=by
 intro Q hok hbad
 show wp (zfn (ptr R 0) wv) Q H
 have hsl:=h.words
 obtain⟨a0,b0⟩:=wd0 hsl (by omega)
 rw[hk] at b0
 have d1:decide (zse=(⟨#[101,110,103,105,110,101,101,114,115]⟩:ByteArray))=true:=by decide
 obtain⟨u,hu,hus,_⟩:=z9p (α:=ByteArray) (n:=1) rfl hsl (k:=1) hw
 have hu':zgs 1 wv (some (Value.int .i64 1)) none=some u:=hu
 (try simp(maxSteps:=1000000)(disch:=first|omega|(simp only[Z3];omega)|(simp;done)|assumption|decide|(apply not_not_intro;assumption))only[ZA,zbh,zp,zo,zm,zi,zf,zg,zd,zfn,a0,b0,d1])
 refine (zi8 (cs:=zbm [zfh,k0S]) (by decide) (by rfl)).mpr ?_
 have s1:=h.hp.newo (α:=ByteArray) (n:=1) (m:=2) [zfh,k0S] rfl rfl
 have ka:Keeps [] H (H.push (some (.cells true (zbm [zfh,k0S])))):=Keeps.push _ _ _
 generalize H.push (some (.cells true (zbm [zfh,k0S])))=Ha at *
 (try simp(maxSteps:=1000000)(disch:=first|omega|(simp only[Z3];omega)|(simp;done)|assumption|decide|(apply not_not_intro;assumption))only[ZB,hu'])
 refine zvl s1 (i:=0) rfl rfl (hus.keep0 ka) (by simp;omega) (by simp;omega) fun w3 Hb s2=>?_
 simp only[List.set_cons_zero] at s2
 have hdr:([zfh,k0S] ++ ws.drop 1).drop 1=k0S :: ws.drop 1:=rfl
 (try simp(maxSteps:=1000000)(disch:=first|omega|(simp only[Z3];omega)|(simp;done)|assumption|decide|(apply not_not_intro;assumption))only[ZB])
 refine zbf3 (s2.own (i:=0) rfl).sl (by simp;omega) 1 3 (by simp) (by omega) _ (fun l hl w H1 k1 o1 f1=>?_) fun hn w H1 k1=>?_
 case refine_2 =>
  rw[hdr,zbnr _ 2] at hn
  have e:zsy st ws=none:=by
   rw[zsy]
   cases hx:zds (ws.drop 1) 2 with
   | none=>rfl
   | some x=>rw[hx] at hn;cases hn
  have r1:ReadAt H0 H1 R v st (view wv ws :: L):=⟨s2.tail.keep0 k1,h.uns,h.us⟩
  (try simp(maxSteps:=1000000)(disch:=first|omega|(simp only[Z3];omega)|(simp;done)|assumption|decide|(apply not_not_intro;assumption))only[ZB,zkn])
  exact hbad e _ r1.rest
 have hlen:=zlc hl
 rw[hdr,zbnr _ 2] at hl
 have r1:ReadAt H0 H1 R v st (view wv ws :: L):=⟨s2.tail.keep0 k1,h.uns,h.us⟩
 have e:zsy st ws=some (addW st ⟨-1,l.getD 1 0,l.getD 2 0⟩):=by
  rw[zsy]
  cases hx:zds (ws.drop 1) 2 with
  | none=>rw[hx] at hl;cases hl
  | some x=>rw[hx] at hl;cases hl;rfl
 have g:=r1.get
 have hone:=r1.hp.own (i:=4) rfl
 obtain⟨x1,y1⟩:=vd o1.sl (i:=1) (n:=1) (by omega) rfl
 obtain⟨x2,y2⟩:=vd o1.sl (i:=2) (n:=2) (by omega) rfl
 unfold RV.cells at g
 (try simp(maxSteps:=1000000)(disch:=first|omega|(simp only[Z3];omega)|(simp;done)|assumption|decide|(apply not_not_intro;assumption))only[ZA,zbh,zp,zo,zm,zf,zg,zh,zd,g,x1,y1,x2,y2])
 have hf:zbn (rep 1 [Value.int .i64 0,Value.int .i64 0,Value.int .i64 0]) [(0,3,.agg #[i64 (-1),i64 (l.getD 1 0),i64 (l.getD 2 0)])]=some (zbm ([⟨-1,l.getD 1 0,l.getD 2 0⟩]:List Win)):=by
  show zbn _ [(0,3,.agg ([i64 (-1),i64 (l.getD 1 0),i64 (l.getD 2 0)]:List V).toArray)]=_
  rw[zi (n:=3) rfl rfl (by decide),zba]
  rfl
 refine zgl (α:=Win) (n:=3) (ys:=[⟨-1,l.getD 1 0,l.getD 2 0⟩]) r1.hp (i:=4) rfl rfl (by decide) hf rfl (by have:=hs.wins;omega) (by decide) fun w2 H2 H3 k2 s2=>?_
 have g1:=k2.get r1.get (by simp)
 have ck:zgm (zdk (H2.get R) 4) v.wv=true:=by rw[g1];exact zen hone.sl
 have g2:=s2.get (i:=0) rfl
 unfold RV.cells at g2
 have n2:=Heap.get_lt g2
 have ow:=(s2.own (i:=4) rfl).isOne
 (try simp(maxSteps:=1000000)(disch:=first|omega|(simp only[Z3];omega)|(simp;done)|assumption|decide|(apply not_not_intro;assumption))only[ZB,g2])
 simp only[ow,true_and]
 have s3:=s2.set (i:=0) rfl ({ v with wv:=w2 }.cells (addW st ⟨-1,l.getD 1 0,l.getD 2 0⟩))
 unfold RV.cells at s3
 have r3:ReadAt H0 _ R { v with wv:=w2 } (addW st ⟨-1,l.getD 1 0,l.getD 2 0⟩) (view wv ws :: L):=⟨s3,r1.uns,r1.us⟩
 (try simp(maxSteps:=1000000)(disch:=first|omega|(simp only[Z3];omega)|(simp;done)|assumption|decide|(apply not_not_intro;assumption))only[ZB,ck,zkn])
 exact hok _ e _ _ r3
end Go.AM.Cap

/- conf, the document: lines that are said once -/
set_option maxHeartbeats 16000000
namespace Go.AM.Cap
open Go.AM Go.Proofs
variable {H0 H:Heap} {R:Nat} {v:RV} {st:RSt} {L:List Thing}
theorem zb3o:∀ (l:List ByteArray) (s:ByteArray),-1≤amS l s
 | [],_=>Int.le_refl _
 | x :: l,s=>by
  have:=zb3o l s
  unfold amS
  by_cases h:x=s
  ·rw[if_pos h];decide
  rw[if_neg h]
  by_cases h2:amS l s = -1
  ·rw[if_pos h2];decide
  ·rw[if_neg h2];omega
theorem zb0o:∀ (l:List ByteArray) (s:ByteArray),zsx l s=decide (0≤amS l s)
 | [],_=>rfl
 | x :: l,s=>by
  have ih:=zb0o l s
  have hg:=zb3o l s
  unfold zsx at ih ⊢
  rw[List.any_cons,ih,amS]
  by_cases h:x=s
  ·subst h;rw[if_pos rfl];simp
  rw[if_neg h,decide_eq_false (fun q=>h q.symm),Bool.false_or]
  by_cases h2:amS l s = -1
  ·rw[if_pos h2,h2]
  ·rw[if_neg h2];apply decide_eq_decide.mpr;omega
theorem zbdo {wv:V} {ws:List ByteArray} (h:ReadAt H0 H R v st (view wv ws :: L)) (hs:Sm st 1000000) (hw:1≤ws.length) (hb:ws.length≤900000) (hk:z8 ws 0=ze2∨z8 ws 0=zgk∨z8 ws 0=zk3) (Q:V→Heap→Prop)
  (hok:∀ l,zds (ws.drop 1) 1=some l→zsx st.once (z8 ws 0)=false→∀ v' H',ReadAt H0 H' R v' (zgr st (z8 ws 0) (l.getD 0 0)) (view wv ws :: L)→Q (i64 0) H')
  (hbad:zds (ws.drop 1) 1=none→∀ H',Hp H0 H' (view wv ws :: L)→Q (i64 3) H') (htwo:∀ l,zds (ws.drop 1) 1=some l→zsx st.once (z8 ws 0)=true→∀ H',Hp H0 H' (view wv ws :: L)→Q (i64 6) H'):wp (zh3 [ptr R 0,wv]) Q H:=by
 show wp (zlk (ptr R 0) wv) Q H
 have hsl:=h.words
 (try simp(maxSteps:=1000000)(disch:=first|omega|(simp only[Z3];omega)|(simp;done)|assumption|decide|(apply not_not_intro;assumption))only[ZB,zlk])
 refine zbf3 hsl (by omega) 1 1 hw (by omega) _ (fun l hl w H1 k1 o1 f1=>?_) fun hn w H1 k1=>?_
 case refine_2 =>
  have r1:=h.keep0 k1
  (try simp(maxSteps:=1000000)(disch:=first|omega|(simp only[Z3];omega)|(simp;done)|assumption|decide|(apply not_not_intro;assumption))only[ZB])
  exact hbad hn _ r1.rest
 have hlen:=zlc hl
 have r1:=h.keep0 k1
 have s1:Hp H0 H1 (own w l :: v.things R st (view wv ws :: L)):=h.hp.add k1 o1 f1
 obtain⟨a0,b0⟩:=wd0 r1.words (by omega)
 have g:=r1.get
 have hone:=r1.hp.own (i:=7) rfl
 unfold RV.cells at g
 (try simp(maxSteps:=1000000)(disch:=first|omega|(simp only[Z3];omega)|(simp;done)|assumption|decide|(apply not_not_intro;assumption))only[ZB,zrf,g,a0,b0])
 refine z2n hone.sl (by have:=hs.once;omega) (z8 ws 0) _ ?_
 have hh:=zb0o st.once (z8 ws 0)
 cases hc:zsx st.once (z8 ws 0) with
 | true =>
  rw[hc] at hh
  have e1:decide (amS st.once (z8 ws 0)≥0)=true:=hh.symm
  (try simp(maxSteps:=1000000)(disch:=first|omega|(simp only[Z3];omega)|(simp;done)|assumption|decide|(apply not_not_intro;assumption))only[ZB,e1])
  exact htwo l hl hc _ r1.rest
 | false =>
 rw[hc] at hh
 have e1:decide (amS st.once (z8 ws 0)≥0)=false:=hh.symm
 (try simp(maxSteps:=1000000)(disch:=first|omega|(simp only[Z3];omega)|(simp;done)|assumption|decide|(apply not_not_intro;assumption))only[ZA,zbh,zp,zo,zm,zi,zf,zg,zd,e1,zre,g,a0,b0])
 refine zgl (α:=ByteArray) (n:=1) (ys:=[z8 ws 0]) s1 (i:=8) rfl rfl (by decide) (by rw[show rep 1 [Value.string ⟨#[]⟩]=[Value.string ⟨#[]⟩] from rfl,zd rfl (by decide),zba];rfl) rfl (by have:=hs.once;omega) (by decide) fun w2 H2 H3 k2 s2=>?_
 have g1:=k2.get r1.get (by simp)
 have ck:zgm (zdk (H2.get R) 9) v.ov=true:=by rw[g1];exact zen hone.sl
 have g2:=s2.get (i:=1) rfl
 unfold RV.cells at g2
 have n2:=Heap.get_lt g2
 have ow:=(s2.own (i:=8) rfl).isOne
 (try simp(maxSteps:=1000000)(disch:=first|omega|(simp only[Z3];omega)|(simp;done)|assumption|decide|(apply not_not_intro;assumption))only[ZB,g2])
 simp only[ow,true_and]
 have s3:=s2.set (i:=1) rfl ({ v with ov:=w2 }.cells { st with once:=st.once ++ [z8 ws 0] })
 unfold RV.cells at s3
 have r3:ReadAt H0 _ R { v with ov:=w2 } { st with once:=st.once ++ [z8 ws 0] } (view wv ws :: L):=⟨s3.tail,h.uns,h.us⟩
 obtain⟨a3,b3⟩:=wd0 r3.words (by omega)
 obtain⟨x3,y3⟩:=vd0 (s3.own (i:=0) rfl).sl (by omega)
 have g3:=r3.get
 unfold RV.cells at g3
 generalize H3.set R _=H4 at *
 have n4:=Heap.get_lt g3
 have e12:¬ ze2=zgk:=by decide
 have e13:¬ ze2=zk3:=by decide
 have e23:¬ zgk=zk3:=by decide
 rcases hk with hk | hk | hk
 ·rw[hk] at b3 hok
  have d1:decide (ze2=(⟨#[109,105,108,108,105,115]⟩:ByteArray))=true:=by decide
  (try simp(maxSteps:=1000000)(disch:=first|omega|(simp only[Z3];omega)|(simp;done)|assumption|decide|(apply not_not_intro;assumption))only[ZB,ck,a3,b3,d1,x3,y3,g3,zha])
  have s4:=r3.hp.set (i:=0) rfl ({ v with ov:=w2 }.cells { st with sy:={ st.sy with millis:=l.getD 0 0 },once:=st.once ++ [z8 ws 0] })
  unfold RV.cells at s4
  refine hok l hl (hk ▸ hc) { v with ov:=w2 } _ ?_
  have e:zgr st ze2 (l.getD 0 0)={ st with sy:={ st.sy with millis:=l.getD 0 0 },once:=st.once ++ [ze2] } := by rw[zgr,if_pos rfl]
  rw[e,← hk]
  exact⟨s4,h.uns,h.us⟩
 ·rw[hk] at b3 hok
  have d1:decide (zgk=(⟨#[109,105,108,108,105,115]⟩:ByteArray))=false:=by decide
  have d2:decide (zgk=(⟨#[102,114,97,109,101]⟩:ByteArray))=true:=by decide
  (try simp(maxSteps:=1000000)(disch:=first|omega|(simp only[Z3];omega)|(simp;done)|assumption|decide|(apply not_not_intro;assumption))only[ZB,ck,a3,b3,d1,d2,x3,y3,g3,zha])
  have s4:=r3.hp.set (i:=0) rfl ({ v with ov:=w2 }.cells { st with sy:={ st.sy with frame:=l.getD 0 0 },once:=st.once ++ [z8 ws 0] })
  unfold RV.cells at s4
  refine hok l hl (hk ▸ hc) { v with ov:=w2 } _ ?_
  have e:zgr st zgk (l.getD 0 0)={ st with sy:={ st.sy with frame:=l.getD 0 0 },once:=st.once ++ [zgk] } := by rw[zgr,if_neg (fun q=>e12 q.symm),if_pos rfl]
  rw[e,← hk]
  exact⟨s4,h.uns,h.us⟩
 ·rw[hk] at b3 hok
  have d1:decide (zk3=(⟨#[109,105,108,108,105,115]⟩:ByteArray))=false:=by decide
  have d2:decide (zk3=(⟨#[102,114,97,109,101]⟩:ByteArray))=false:=by decide
  (try simp(maxSteps:=1000000)(disch:=first|omega|(simp only[Z3];omega)|(simp;done)|assumption|decide|(apply not_not_intro;assumption))only[ZB,ck,a3,b3,d1,d2,x3,y3,g3,zha])
  have s4:=r3.hp.set (i:=0) rfl ({ v with ov:=w2 }.cells { st with idle:=l.getD 0 0,once:=st.once ++ [z8 ws 0] })
  unfold RV.cells at s4
  refine hok l hl (hk ▸ hc) { v with ov:=w2 } _ ?_
  have e:zgr st zk3 (l.getD 0 0)={ st with idle:=l.getD 0 0,once:=st.once ++ [zk3] } := by rw[zgr,if_neg (fun q=>e13 q.symm),if_neg (fun q=>e23 q.symm)]
  rw[e,← hk]
  exact⟨s4,h.uns,h.us⟩
end Go.AM.Cap
