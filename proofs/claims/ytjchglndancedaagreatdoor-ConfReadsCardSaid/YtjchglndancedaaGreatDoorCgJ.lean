import Derived.Test.YtjchglndancedaaGreatDoorCgI
import Derived.Test.YtjchglndancedaaGreatDoorAmOpenF
set_option linter.all false
/- conf, the document: a line (printed by gencg3.py) -/
set_option maxHeartbeats 32000000
namespace Go.AM.Cap
open Go.AM Go.Proofs
variable {H0 H:Heap} {R:Nat} {v:RV} {st:RSt} {L:List Thing}
theorem zuy (Q:V→Heap→Prop):wp (ze0 [.bool true]) Q H↔Q (i64 0) H:=by
 show wp (zrg (.bool true)) Q H↔_
 (try simp(maxSteps:=1000000)(disch:=first|omega|(simp only[Z3];omega)|(simp;done)|assumption|decide|(apply not_not_intro;assumption))only[ZB,zrg])
theorem zuz (Q:V→Heap→Prop):wp (ze0 [.bool false]) Q H↔Q (i64 3) H:=by
 show wp (zrg (.bool false)) Q H↔_
 (try simp(maxSteps:=1000000)(disch:=first|omega|(simp only[Z3];omega)|(simp;done)|assumption|decide|(apply not_not_intro;assumption))only[ZB,zrg,zbbt])
theorem zbns {wv x:V} {ws:List ByteArray} (h:ReadAt H0 H R v st (view wv ws :: L)) (hs:Sm st 1000000) (hw:1≤ws.length) (hb:ws.length≤900000) (Q:Out→Heap→Prop)
  (hok:∀ st',zlr st ws=some st'→∀ v' H',ReadAt H0 H' R v' st' (view wv ws :: L)→Q (.ret [i64 0]) H') (hbad:zlr st ws=none→∀ H',Hp H0 H' (view wv ws :: L)→Q (.ret [i64 3]) H'):wp (zbq [ptr R 0,wv,x,.bool true]) Q H:=by
 have hsl:=h.words
 (try simp(maxSteps:=1000000)(disch:=first|omega|(simp only[Z3];omega)|(simp;done)|assumption|decide|(apply not_not_intro;assumption))only[ZB,zbq])
 refine zbf3 hsl (by omega) 1 2 hw (by omega) _ (fun l hl w H1 k1 o1 f1=>?_) fun hn w H1 k1=>?_
 case refine_2 =>
  have e:zlr st ws=none:=by rw[zlr,hn]
  have r1:=h.keep0 k1
  (try simp(maxSteps:=1000000)(disch:=first|omega|(simp only[Z3];omega)|(simp;done)|assumption|decide|(apply not_not_intro;assumption))only[ZB,zna,zuz])
  exact hbad e _ r1.rest
 have hlen:=zlc hl
 have r1:=h.keep0 k1
 have e:zlr st ws=some (addG st ⟨l.getD 0 0,l.getD 1 0,decide (z8 ws 0=zfy)⟩):=by rw[zlr,hl]
 have g:=r1.get
 have hone:=r1.hp.own (i:=2) rfl
 obtain⟨x0,y0⟩:=vd0 o1.sl (by omega)
 obtain⟨x1,y1⟩:=vd o1.sl (i:=1) (n:=1) (by omega) rfl
 obtain⟨a0,b0⟩:=wd0 r1.words (by omega)
 unfold RV.cells at g
 (try simp(maxSteps:=1000000)(disch:=first|omega|(simp only[Z3];omega)|(simp;done)|assumption|decide|(apply not_not_intro;assumption))only[ZA,zbh,zp,zo,zm,zf,zg,zh,zd,g,x0,y0,x1,y1,a0,b0])
 have hf:zbn (rep 1 [Value.int .i64 0,Value.int .i64 0,Value.bool false]) [(0,3,.agg #[i64 (l.getD 0 0),i64 (l.getD 1 0),.bool (decide (z8 ws 0=zfy))])]=some (zbm ([⟨l.getD 0 0,l.getD 1 0,decide (z8 ws 0=zfy)⟩]:List Gr)):=by
  show zbn _ [(0,3,.agg ([i64 (l.getD 0 0),i64 (l.getD 1 0),.bool (decide (z8 ws 0=zfy))]:List V).toArray)]=_
  rw[zi (n:=3) rfl rfl (by decide),zba]
  rfl
 refine zgl (α:=Gr) (n:=3) (ys:=[⟨l.getD 0 0,l.getD 1 0,decide (z8 ws 0=zfy)⟩]) r1.hp (i:=2) rfl rfl (by decide) hf rfl (by have:=hs.grs;omega) (by decide) fun w2 H2 H3 k2 s2=>?_
 have g1:=k2.get r1.get (by simp)
 have ck:zgm (zdk (H2.get R) 1) v.gv=true:=by rw[g1];exact zen hone.sl
 have g2:=s2.get (i:=0) rfl
 unfold RV.cells at g2
 have n2:=Heap.get_lt g2
 have ow:=(s2.own (i:=2) rfl).isOne
 (try simp(maxSteps:=1000000)(disch:=first|omega|(simp only[Z3];omega)|(simp;done)|assumption|decide|(apply not_not_intro;assumption))only[ZB,g2])
 simp only[ow,true_and]
 have s3:=s2.set (i:=0) rfl ({ v with gv:=w2 }.cells (addG st ⟨l.getD 0 0,l.getD 1 0,decide (z8 ws 0=zfy)⟩))
 unfold RV.cells at s3
 have r3:ReadAt H0 _ R { v with gv:=w2 } (addG st ⟨l.getD 0 0,l.getD 1 0,decide (z8 ws 0=zfy)⟩) (view wv ws :: L):=⟨s3,r1.uns,r1.us⟩
 (try simp(maxSteps:=1000000)(disch:=first|omega|(simp only[Z3];omega)|(simp;done)|assumption|decide|(apply not_not_intro;assumption))only[ZB,ck,zna,zuy])
 exact hok _ e _ _ r3
theorem zb0t {wv:V} {ws:List ByteArray} (h:ReadAt H0 H R v st (view wv ws :: L)) (hs:Sm st 1000000) (Q:Out→Heap→Prop)
  (hok:∀ st',zrw st ws=some st'→∀ v' H',ReadAt H0 H' R v' st' (view wv ws :: L)→Q (.ret [i64 0]) H') (hbad:zrw st ws=none→∀ H',Hp H0 H' (view wv ws :: L)→Q (.ret [i64 3]) H'):wp (zb8 [ptr R 0,wv,.string zsf,.bool false]) Q H:=by
 have hlen:=h.words.len
 have g:=h.get
 unfold RV.cells at g
 have hul:v.uns.length≤1000000:=by have:=hs.uns;rw[← h.uns,List.length_map] at this;exact this
 have eb:build [(Value.slice none 0 0:V),Value.slice none 0 0] []=some (.agg #[.slice none 0 0,.slice none 0 0]):=rfl
 have d:decide (zsf=(⟨#[117,110,105,116]⟩:ByteArray))=true:=by decide
 (try simp(maxSteps:=1000000)(disch:=first|omega|(simp only[Z3];omega)|(simp;done)|assumption|decide|(apply not_not_intro;assumption))only[ZA,zbh,zp,zo,zf,zg,zh,zd,zb8,d,g,eb])
 have hf:zbn (rep 1 [(Value.slice none 0 0:V),Value.slice none 0 0]) [(0,2,.agg #[.slice none 0 0,.slice none 0 0])]=some (zbm ([un0]:List Un)):=by
  show zbn _ [(0,2,.agg ([.slice none 0 0,.slice none 0 0]:List V).toArray)]=_
  rw[zi (n:=2) rfl rfl (by decide),zba]
  rfl
 refine zf5 (α:=Un) (n:=2) (ys:=[un0]) h.hp (i:=5) rfl rfl (by decide) hf rfl (by omega) (by omega) fun w2 H3 s2=>?_
 have g2:=s2.get (i:=0) rfl
 unfold RV.cells at g2
 have n2:=Heap.get_lt g2
 have ow:=(s2.own (i:=5) rfl).isOne
 (try simp(maxSteps:=1000000)(disch:=first|omega|(simp only[Z3];omega)|(simp;done)|assumption|decide|(apply not_not_intro;assumption))only[ZB,g2,hlen])
 simp only[ow,true_and]
 have s3:=s2.set (i:=0) rfl ({ v with uv:=w2 }.cells st)
 have s4:=zbs0 (v:=v) (st:=st) (uw:=w2) (by exact s3)
 unfold RV.cells at s4 s3
 have r3:ReadAt H0 _ R { v with uv:=w2,uns:=v.uns ++ [un0] } (addU st) (view wv ws :: L):=⟨s4,by simp only[addU];rw[List.map_append,h.uns];rfl,h.us⟩
 by_cases c1:ws.length=1
 ·have e:zrw st ws=some (addU st):=by rw[zrw,if_pos c1]
  have e1:decide ((ws.length:Int)=1)=true:=decide_eq_true (by omega)
  (try simp(maxSteps:=1000000)(disch:=first|omega|(simp only[Z3];omega)|(simp;done)|assumption|decide|(apply not_not_intro;assumption))only[ZB,e1,zuy])
  exact hok _ e _ _ r3
 ·have e:zrw st ws=none:=by rw[zrw,if_neg c1]
  have e1:decide ((ws.length:Int)=1)=false:=decide_eq_false (by omega)
  (try simp(maxSteps:=1000000)(disch:=first|omega|(simp only[Z3];omega)|(simp;done)|assumption|decide|(apply not_not_intro;assumption))only[ZB,e1,zuz])
  exact hbad e _ r3.rest
def zbv8 (st:RSt):Prop:=∀ x∈st.once,zom x=some .single
theorem ReadAt.unview {w:V} {ws:List ByteArray} (h:ReadAt H0 H R v st (view w ws :: L)):ReadAt H0 H R v st L:=by
 refine⟨?_,h.uns,h.us⟩
 have:=h.hp
 rw[z9s] at this ⊢
 exact (this.perm List.perm_middle).tail
theorem zb0u (h:ReadAt H0 H R v st L) (hs:Sm st 800000) (ho1:zbv8 st) (s:ByteArray) (hz:s.size≤100000) (Q:V→Heap→Prop)
  (hok:∀ st',zi6 st s = .ok st'→∀ v' H',ReadAt H0 H' R v' st' L→Q (i64 0) H') (hbad:∀ e,zi6 st s = .error e→e≠0→∀ H',Hp H0 H' L→Q (i64 e) H'):wp (zjg [ptr R 0,.string s]) Q H:=by
 show wp (zg5 (ptr R 0) (.string s)) Q H
 by_cases c1:s.size=0
 ·have e:zi6 st s = .ok st:=by rw[zi6,if_pos (.inl c1)]
  have e1:decide (s=(⟨#[]⟩:ByteArray))=true:=decide_eq_true (zzu c1)
  (try simp(maxSteps:=1000000)(disch:=first|omega|(simp only[Z3];omega)|(simp;done)|assumption|decide|(apply not_not_intro;assumption))only[ZB,zg5,e1])
  exact hok _ e _ _ h
 have e1:decide (s=(⟨#[]⟩:ByteArray))=false:=decide_eq_false fun h=>c1 (by rw[h];rfl)
 have ix:=zi9 (s:=s) (k := .i64) (i:=0) (by omega) (by omega)
 have hhd:(bv s).getD (0:Int).toNat 0=(bv s).headD 0:=by cases bv s <;> rfl
 rw[hhd] at ix
 have e35:(Value.int .u8 35:V)=B 35#8:=rfl
 by_cases c2:(bv s).headD 0=35#8
 ·have e:zi6 st s = .ok st:=by rw[zi6,if_pos (.inr c2)]
  have e2:decide ((((bv s).headD 0).toNat:Int)=((35#8).toNat:Int))=true:=decide_eq_true (by rw[c2])
  (try simp(maxSteps:=1000000)(disch:=first|omega|(simp only[Z3];omega)|(simp;done)|assumption|decide|(apply not_not_intro;assumption))only[ZB,zg5,e1,ix,e35,e2])
  exact hok _ e _ _ h
 have e2:decide ((((bv s).headD 0).toNat:Int)=((35#8).toNat:Int))=false:=decide_eq_false fun q=>c2 (BitVec.eq_of_toNat_eq (by omega))
 have hline:zi6 st s=match zom (z8 (zbd 32 s) 0) with
  | none => .error 3
  | some k=>if zsx (zbd 32 s) zeq=true then .error 3 else match zi1 st (zbd 32 s) k with
   | none => .error 3
   | some st'=>if zsx st.once (z8 (zbd 32 s) 0)=true then .error 6 else .ok st':=by
  rw[zi6,if_neg (by rintro (q | q);exact c1 q;exact c2 q)]
  rfl
 have hwz:∀ w∈zbd 32 s,w.size≤1000000:=fun w hw=>by have:=z9r hw;omega
 have hwl:=zyx 32 s
 have hwp:=zyy 32 s
 have hs:=hs.mono (m:=1000000) (by omega)
 (try simp(maxSteps:=1000000)(disch:=first|omega|(simp only[Z3];omega)|(simp;done)|assumption|decide|(apply not_not_intro;assumption))only[ZB,zg5,e1,ix,e35,e2,zsd])
 refine zb0j h.hp s (by omega) _ (fun hn w H1 k1 s1=>?_) fun hn H1 k1 s1=>?_
 case refine_2 =>
  have e:zi6 st s = .error 3:=by
   rw[hline]
   cases zom (z8 (zbd 32 s) 0) with
   | none=>rfl
   | some k=>simp only;rw[if_pos hn]
  have r1:ReadAt H0 H1 R v st L:=⟨s1,h.uns,h.us⟩
  (try simp(maxSteps:=1000000)(disch:=first|omega|(simp only[Z3];omega)|(simp;done)|assumption|decide|(apply not_not_intro;assumption))only[ZB])
  exact hbad 3 e (by decide) _ r1.rest
 rw[hn] at hline
 generalize hws:zbd 32 s=ws at *
 have r1:=h.view_in s1
 obtain⟨a0,b0⟩:=wd0 r1.words (by omega)
 have hres:∀ {k:Kw},zom (z8 ws 0)=some k→k ≠ .single→zi6 st s=match zi1 st ws k with
   | none => .error 3
   | some st' => .ok st':=fun {k} hk hk1=>by
  have hno:zsx st.once (z8 ws 0)=false:=by
   cases hh:zsx st.once (z8 ws 0) with
   | false=>rfl
   | true =>
    obtain⟨x,hx,he⟩:=List.any_eq_true.1 hh
    have he':z8 ws 0=x:=by simpa using he
    rw[← he'] at hx
    have:=ho1 _ hx
    rw[hk] at this
    cases this
    exact absurd rfl hk1
  rw[hline,hk]
  simp only[hno]
  rfl
 by_cases hk:z8 ws 0=ze2
 ·have hkw:zom (z8 ws 0)=some .single:=by rw[hk];decide
  rw[hk] at b0
  have d0:decide (ze2=(⟨#[109,105,108,108,105,115]⟩:ByteArray))=true:=by decide
  (try simp(maxSteps:=1000000)(disch:=first|omega|(simp only[Z3];omega)|(simp;done)|assumption|decide|(apply not_not_intro;assumption))only[ZB,a0,b0,d0,zbc,zbb])
  rw[hkw] at hline
  simp only[zi1] at hline
  refine zbdo r1 hs hwp (by omega) (.inl hk) _ (fun l hl hh v' H' r'=>?_) (fun hl H' s'=>?_) (fun l hl hh H' s'=>?_)
  ·rw[hl,hh] at hline
   (try simp(maxSteps:=1000000)(disch:=first|omega|(simp only[Z3];omega)|(simp;done)|assumption|decide|(apply not_not_intro;assumption))only[ZB])
   exact hok _ hline _ _ r'.unview
  ·rw[hl] at hline
   (try simp(maxSteps:=1000000)(disch:=first|omega|(simp only[Z3];omega)|(simp;done)|assumption|decide|(apply not_not_intro;assumption))only[ZB])
   exact hbad 3 hline (by decide) _ s'.tail
  ·rw[hl,hh] at hline
   (try simp(maxSteps:=1000000)(disch:=first|omega|(simp only[Z3];omega)|(simp;done)|assumption|decide|(apply not_not_intro;assumption))only[ZB])
   exact hbad 6 hline (by decide) _ s'.tail
 have n0:decide (z8 ws 0=(⟨#[109,105,108,108,105,115]⟩:ByteArray))=false:=decide_eq_false hk
 have m0:¬ z8 ws 0=ze2:=hk
 clear hk
 by_cases hk:z8 ws 0=zgk
 ·have hkw:zom (z8 ws 0)=some .single:=by rw[hk];decide
  rw[hk] at b0
  have d0:decide (zgk=(⟨#[109,105,108,108,105,115]⟩:ByteArray))=false:=by decide
  have d1:decide (zgk=(⟨#[102,114,97,109,101]⟩:ByteArray))=true:=by decide
  (try simp(maxSteps:=1000000)(disch:=first|omega|(simp only[Z3];omega)|(simp;done)|assumption|decide|(apply not_not_intro;assumption))only[ZB,a0,b0,d0,d1,zbc,zbb])
  rw[hkw] at hline
  simp only[zi1] at hline
  refine zbdo r1 hs hwp (by omega) (.inr (.inl hk)) _ (fun l hl hh v' H' r'=>?_) (fun hl H' s'=>?_) (fun l hl hh H' s'=>?_)
  ·rw[hl,hh] at hline
   (try simp(maxSteps:=1000000)(disch:=first|omega|(simp only[Z3];omega)|(simp;done)|assumption|decide|(apply not_not_intro;assumption))only[ZB])
   exact hok _ hline _ _ r'.unview
  ·rw[hl] at hline
   (try simp(maxSteps:=1000000)(disch:=first|omega|(simp only[Z3];omega)|(simp;done)|assumption|decide|(apply not_not_intro;assumption))only[ZB])
   exact hbad 3 hline (by decide) _ s'.tail
  ·rw[hl,hh] at hline
   (try simp(maxSteps:=1000000)(disch:=first|omega|(simp only[Z3];omega)|(simp;done)|assumption|decide|(apply not_not_intro;assumption))only[ZB])
   exact hbad 6 hline (by decide) _ s'.tail
 have n1:decide (z8 ws 0=(⟨#[102,114,97,109,101]⟩:ByteArray))=false:=decide_eq_false hk
 have m1:¬ z8 ws 0=zgk:=hk
 clear hk
 by_cases hk:z8 ws 0=zk3
 ·have hkw:zom (z8 ws 0)=some .single:=by rw[hk];decide
  rw[hk] at b0
  have d0:decide (zk3=(⟨#[109,105,108,108,105,115]⟩:ByteArray))=false:=by decide
  have d1:decide (zk3=(⟨#[102,114,97,109,101]⟩:ByteArray))=false:=by decide
  have d2:decide (zk3=(⟨#[105,100,108,101]⟩:ByteArray))=true:=by decide
  (try simp(maxSteps:=1000000)(disch:=first|omega|(simp only[Z3];omega)|(simp;done)|assumption|decide|(apply not_not_intro;assumption))only[ZB,a0,b0,d0,d1,d2,zbc,zbb])
  rw[hkw] at hline
  simp only[zi1] at hline
  refine zbdo r1 hs hwp (by omega) (.inr (.inr hk)) _ (fun l hl hh v' H' r'=>?_) (fun hl H' s'=>?_) (fun l hl hh H' s'=>?_)
  ·rw[hl,hh] at hline
   (try simp(maxSteps:=1000000)(disch:=first|omega|(simp only[Z3];omega)|(simp;done)|assumption|decide|(apply not_not_intro;assumption))only[ZB])
   exact hok _ hline _ _ r'.unview
  ·rw[hl] at hline
   (try simp(maxSteps:=1000000)(disch:=first|omega|(simp only[Z3];omega)|(simp;done)|assumption|decide|(apply not_not_intro;assumption))only[ZB])
   exact hbad 3 hline (by decide) _ s'.tail
  ·rw[hl,hh] at hline
   (try simp(maxSteps:=1000000)(disch:=first|omega|(simp only[Z3];omega)|(simp;done)|assumption|decide|(apply not_not_intro;assumption))only[ZB])
   exact hbad 6 hline (by decide) _ s'.tail
 have n2:decide (z8 ws 0=(⟨#[105,100,108,101]⟩:ByteArray))=false:=decide_eq_false hk
 have m2:¬ z8 ws 0=zk3:=hk
 clear hk
 by_cases hk:z8 ws 0=kIn
 ·have hkw:zom (z8 ws 0)=some .point:=by rw[hk];decide
  rw[hk] at b0
  have d0:decide (kIn=(⟨#[109,105,108,108,105,115]⟩:ByteArray))=false:=by decide
  have d1:decide (kIn=(⟨#[102,114,97,109,101]⟩:ByteArray))=false:=by decide
  have d2:decide (kIn=(⟨#[105,100,108,101]⟩:ByteArray))=false:=by decide
  have d3:decide (kIn=(⟨#[105,110]⟩:ByteArray))=true:=by decide
  (try simp(maxSteps:=1000000)(disch:=first|omega|(simp only[Z3];omega)|(simp;done)|assumption|decide|(apply not_not_intro;assumption))only[ZB,a0,b0,d0,d1,d2,d3,zbc,zbb,zbk])
  have hr:=hres hkw (by decide)
  simp only[zi1] at hr
  refine zbnq r1 hs hwp _ (fun st' hst v' H' r'=>?_) (fun hst H' s'=>?_)
  ·rw[hst] at hr
   (try simp(maxSteps:=1000000)(disch:=first|omega|(simp only[Z3];omega)|(simp;done)|assumption|decide|(apply not_not_intro;assumption))only[ZB,zuy])
   exact hok _ hr _ _ r'.unview
  ·rw[hst] at hr
   (try simp(maxSteps:=1000000)(disch:=first|omega|(simp only[Z3];omega)|(simp;done)|assumption|decide|(apply not_not_intro;assumption))only[ZB,zuz])
   exact hbad 3 hr (by decide) _ s'.tail
 have n3:decide (z8 ws 0=(⟨#[105,110]⟩:ByteArray))=false:=decide_eq_false hk
 have m3:¬ z8 ws 0=kIn:=hk
 clear hk
 by_cases hk:z8 ws 0=zwc
 ·have hkw:zom (z8 ws 0)=some .point:=by rw[hk];decide
  rw[hk] at b0
  have d0:decide (zwc=(⟨#[109,105,108,108,105,115]⟩:ByteArray))=false:=by decide
  have d1:decide (zwc=(⟨#[102,114,97,109,101]⟩:ByteArray))=false:=by decide
  have d2:decide (zwc=(⟨#[105,100,108,101]⟩:ByteArray))=false:=by decide
  have d3:decide (zwc=(⟨#[105,110]⟩:ByteArray))=false:=by decide
  have d4:decide (zwc=(⟨#[111,117,116]⟩:ByteArray))=true:=by decide
  (try simp(maxSteps:=1000000)(disch:=first|omega|(simp only[Z3];omega)|(simp;done)|assumption|decide|(apply not_not_intro;assumption))only[ZB,a0,b0,d0,d1,d2,d3,d4,zbc,zbb,zbk])
  have hr:=hres hkw (by decide)
  simp only[zi1] at hr
  refine zbnq r1 hs hwp _ (fun st' hst v' H' r'=>?_) (fun hst H' s'=>?_)
  ·rw[hst] at hr
   (try simp(maxSteps:=1000000)(disch:=first|omega|(simp only[Z3];omega)|(simp;done)|assumption|decide|(apply not_not_intro;assumption))only[ZB,zuy])
   exact hok _ hr _ _ r'.unview
  ·rw[hst] at hr
   (try simp(maxSteps:=1000000)(disch:=first|omega|(simp only[Z3];omega)|(simp;done)|assumption|decide|(apply not_not_intro;assumption))only[ZB,zuz])
   exact hbad 3 hr (by decide) _ s'.tail
 have n4:decide (z8 ws 0=(⟨#[111,117,116]⟩:ByteArray))=false:=decide_eq_false hk
 have m4:¬ z8 ws 0=zwc:=hk
 clear hk
 by_cases hk:z8 ws 0=z84
 ·have hkw:zom (z8 ws 0)=some .grant:=by rw[hk];decide
  rw[hk] at b0
  have d0:decide (z84=(⟨#[109,105,108,108,105,115]⟩:ByteArray))=false:=by decide
  have d1:decide (z84=(⟨#[102,114,97,109,101]⟩:ByteArray))=false:=by decide
  have d2:decide (z84=(⟨#[105,100,108,101]⟩:ByteArray))=false:=by decide
  have d3:decide (z84=(⟨#[105,110]⟩:ByteArray))=false:=by decide
  have d4:decide (z84=(⟨#[111,117,116]⟩:ByteArray))=false:=by decide
  have d5:decide (z84=(⟨#[114,101,97,100]⟩:ByteArray))=true:=by decide
  (try simp(maxSteps:=1000000)(disch:=first|omega|(simp only[Z3];omega)|(simp;done)|assumption|decide|(apply not_not_intro;assumption))only[ZB,a0,b0,d0,d1,d2,d3,d4,d5,zbc,zbb,zbk])
  have hr:=hres hkw (by decide)
  simp only[zi1] at hr
  refine zbns r1 hs hwp (by omega) _ (fun st' hst v' H' r'=>?_) (fun hst H' s'=>?_)
  ·rw[hst] at hr
   (try simp(maxSteps:=1000000)(disch:=first|omega|(simp only[Z3];omega)|(simp;done)|assumption|decide|(apply not_not_intro;assumption))only[ZB])
   exact hok _ hr _ _ r'.unview
  ·rw[hst] at hr
   (try simp(maxSteps:=1000000)(disch:=first|omega|(simp only[Z3];omega)|(simp;done)|assumption|decide|(apply not_not_intro;assumption))only[ZB])
   exact hbad 3 hr (by decide) _ s'.tail
 have n5:decide (z8 ws 0=(⟨#[114,101,97,100]⟩:ByteArray))=false:=decide_eq_false hk
 have m5:¬ z8 ws 0=z84:=hk
 clear hk
 by_cases hk:z8 ws 0=zfy
 ·have hkw:zom (z8 ws 0)=some .grant:=by rw[hk];decide
  rw[hk] at b0
  have d0:decide (zfy=(⟨#[109,105,108,108,105,115]⟩:ByteArray))=false:=by decide
  have d1:decide (zfy=(⟨#[102,114,97,109,101]⟩:ByteArray))=false:=by decide
  have d2:decide (zfy=(⟨#[105,100,108,101]⟩:ByteArray))=false:=by decide
  have d3:decide (zfy=(⟨#[105,110]⟩:ByteArray))=false:=by decide
  have d4:decide (zfy=(⟨#[111,117,116]⟩:ByteArray))=false:=by decide
  have d5:decide (zfy=(⟨#[114,101,97,100]⟩:ByteArray))=false:=by decide
  have d6:decide (zfy=(⟨#[119,114,105,116,101]⟩:ByteArray))=true:=by decide
  (try simp(maxSteps:=1000000)(disch:=first|omega|(simp only[Z3];omega)|(simp;done)|assumption|decide|(apply not_not_intro;assumption))only[ZB,a0,b0,d0,d1,d2,d3,d4,d5,d6,zbc,zbb,zbk])
  have hr:=hres hkw (by decide)
  simp only[zi1] at hr
  refine zbns r1 hs hwp (by omega) _ (fun st' hst v' H' r'=>?_) (fun hst H' s'=>?_)
  ·rw[hst] at hr
   (try simp(maxSteps:=1000000)(disch:=first|omega|(simp only[Z3];omega)|(simp;done)|assumption|decide|(apply not_not_intro;assumption))only[ZB])
   exact hok _ hr _ _ r'.unview
  ·rw[hst] at hr
   (try simp(maxSteps:=1000000)(disch:=first|omega|(simp only[Z3];omega)|(simp;done)|assumption|decide|(apply not_not_intro;assumption))only[ZB])
   exact hbad 3 hr (by decide) _ s'.tail
 have n6:decide (z8 ws 0=(⟨#[119,114,105,116,101]⟩:ByteArray))=false:=decide_eq_false hk
 have m6:¬ z8 ws 0=zfy:=hk
 clear hk
 by_cases hk:z8 ws 0=zn2
 ·have hkw:zom (z8 ws 0)=some .port:=by rw[hk];decide
  rw[hk] at b0
  have d0:decide (zn2=(⟨#[109,105,108,108,105,115]⟩:ByteArray))=false:=by decide
  have d1:decide (zn2=(⟨#[102,114,97,109,101]⟩:ByteArray))=false:=by decide
  have d2:decide (zn2=(⟨#[105,100,108,101]⟩:ByteArray))=false:=by decide
  have d3:decide (zn2=(⟨#[105,110]⟩:ByteArray))=false:=by decide
  have d4:decide (zn2=(⟨#[111,117,116]⟩:ByteArray))=false:=by decide
  have d5:decide (zn2=(⟨#[114,101,97,100]⟩:ByteArray))=false:=by decide
  have d6:decide (zn2=(⟨#[119,114,105,116,101]⟩:ByteArray))=false:=by decide
  have d7:decide (zn2=(⟨#[115,97,109,112,108,101]⟩:ByteArray))=true:=by decide
  (try simp(maxSteps:=1000000)(disch:=first|omega|(simp only[Z3];omega)|(simp;done)|assumption|decide|(apply not_not_intro;assumption))only[ZB,a0,b0,d0,d1,d2,d3,d4,d5,d6,d7,zbc,zbb,zbk,zbq,zb2])
  have hr:=hres hkw (by decide)
  simp only[zi1] at hr
  refine zbs8 r1 hs hwp (by omega) _ (fun st' hst v' H' r'=>?_) (fun hst H' s'=>?_)
  ·rw[hst] at hr
   (try simp(maxSteps:=1000000)(disch:=first|omega|(simp only[Z3];omega)|(simp;done)|assumption|decide|(apply not_not_intro;assumption))only[ZB,zuy])
   exact hok _ hr _ _ r'.unview
  ·rw[hst] at hr
   (try simp(maxSteps:=1000000)(disch:=first|omega|(simp only[Z3];omega)|(simp;done)|assumption|decide|(apply not_not_intro;assumption))only[ZB,zuz])
   exact hbad 3 hr (by decide) _ s'.tail
 have n7:decide (z8 ws 0=(⟨#[115,97,109,112,108,101]⟩:ByteArray))=false:=decide_eq_false hk
 have m7:¬ z8 ws 0=zn2:=hk
 clear hk
 by_cases hk:z8 ws 0=zh0
 ·have hkw:zom (z8 ws 0)=some .port:=by rw[hk];decide
  rw[hk] at b0
  have d0:decide (zh0=(⟨#[109,105,108,108,105,115]⟩:ByteArray))=false:=by decide
  have d1:decide (zh0=(⟨#[102,114,97,109,101]⟩:ByteArray))=false:=by decide
  have d2:decide (zh0=(⟨#[105,100,108,101]⟩:ByteArray))=false:=by decide
  have d3:decide (zh0=(⟨#[105,110]⟩:ByteArray))=false:=by decide
  have d4:decide (zh0=(⟨#[111,117,116]⟩:ByteArray))=false:=by decide
  have d5:decide (zh0=(⟨#[114,101,97,100]⟩:ByteArray))=false:=by decide
  have d6:decide (zh0=(⟨#[119,114,105,116,101]⟩:ByteArray))=false:=by decide
  have d7:decide (zh0=(⟨#[115,97,109,112,108,101]⟩:ByteArray))=false:=by decide
  have d8:decide (zh0=(⟨#[113,117,101,117,101]⟩:ByteArray))=true:=by decide
  (try simp(maxSteps:=1000000)(disch:=first|omega|(simp only[Z3];omega)|(simp;done)|assumption|decide|(apply not_not_intro;assumption))only[ZB,a0,b0,d0,d1,d2,d3,d4,d5,d6,d7,d8,zbc,zbb,zbk,zbq,zb2])
  have hr:=hres hkw (by decide)
  simp only[zi1] at hr
  refine zbs8 r1 hs hwp (by omega) _ (fun st' hst v' H' r'=>?_) (fun hst H' s'=>?_)
  ·rw[hst] at hr
   (try simp(maxSteps:=1000000)(disch:=first|omega|(simp only[Z3];omega)|(simp;done)|assumption|decide|(apply not_not_intro;assumption))only[ZB,zuy])
   exact hok _ hr _ _ r'.unview
  ·rw[hst] at hr
   (try simp(maxSteps:=1000000)(disch:=first|omega|(simp only[Z3];omega)|(simp;done)|assumption|decide|(apply not_not_intro;assumption))only[ZB,zuz])
   exact hbad 3 hr (by decide) _ s'.tail
 have n8:decide (z8 ws 0=(⟨#[113,117,101,117,101]⟩:ByteArray))=false:=decide_eq_false hk
 have m8:¬ z8 ws 0=zh0:=hk
 clear hk
 by_cases hk:z8 ws 0=zfh
 ·have hkw:zom (z8 ws 0)=some .window:=by rw[hk];decide
  rw[hk] at b0
  have d0:decide (zfh=(⟨#[109,105,108,108,105,115]⟩:ByteArray))=false:=by decide
  have d1:decide (zfh=(⟨#[102,114,97,109,101]⟩:ByteArray))=false:=by decide
  have d2:decide (zfh=(⟨#[105,100,108,101]⟩:ByteArray))=false:=by decide
  have d3:decide (zfh=(⟨#[105,110]⟩:ByteArray))=false:=by decide
  have d4:decide (zfh=(⟨#[111,117,116]⟩:ByteArray))=false:=by decide
  have d5:decide (zfh=(⟨#[114,101,97,100]⟩:ByteArray))=false:=by decide
  have d6:decide (zfh=(⟨#[119,114,105,116,101]⟩:ByteArray))=false:=by decide
  have d7:decide (zfh=(⟨#[115,97,109,112,108,101]⟩:ByteArray))=false:=by decide
  have d8:decide (zfh=(⟨#[113,117,101,117,101]⟩:ByteArray))=false:=by decide
  have d9:decide (zfh=(⟨#[119,105,110,100,111,119]⟩:ByteArray))=true:=by decide
  (try simp(maxSteps:=1000000)(disch:=first|omega|(simp only[Z3];omega)|(simp;done)|assumption|decide|(apply not_not_intro;assumption))only[ZB,a0,b0,d0,d1,d2,d3,d4,d5,d6,d7,d8,d9,zbc,zbb,zbk,zbq,zb2,zb8])
  have hr:=hres hkw (by decide)
  simp only[zi1] at hr
  refine zb23 r1 hs hwp (by omega) hk _ (fun st' hst v' H' r'=>?_) (fun hst H' s'=>?_)
  ·rw[hst] at hr
   (try simp(maxSteps:=1000000)(disch:=first|omega|(simp only[Z3];omega)|(simp;done)|assumption|decide|(apply not_not_intro;assumption))only[ZB,zuy])
   exact hok _ hr _ _ r'.unview
  ·rw[hst] at hr
   (try simp(maxSteps:=1000000)(disch:=first|omega|(simp only[Z3];omega)|(simp;done)|assumption|decide|(apply not_not_intro;assumption))only[ZB,zuz])
   exact hbad 3 hr (by decide) _ s'.tail
 have n9:decide (z8 ws 0=(⟨#[119,105,110,100,111,119]⟩:ByteArray))=false:=decide_eq_false hk
 have m9:¬ z8 ws 0=zfh:=hk
 clear hk
 by_cases hk:z8 ws 0=zse
 ·have hkw:zom (z8 ws 0)=some .engs:=by rw[hk];decide
  rw[hk] at b0
  have d0:decide (zse=(⟨#[109,105,108,108,105,115]⟩:ByteArray))=false:=by decide
  have d1:decide (zse=(⟨#[102,114,97,109,101]⟩:ByteArray))=false:=by decide
  have d2:decide (zse=(⟨#[105,100,108,101]⟩:ByteArray))=false:=by decide
  have d3:decide (zse=(⟨#[105,110]⟩:ByteArray))=false:=by decide
  have d4:decide (zse=(⟨#[111,117,116]⟩:ByteArray))=false:=by decide
  have d5:decide (zse=(⟨#[114,101,97,100]⟩:ByteArray))=false:=by decide
  have d6:decide (zse=(⟨#[119,114,105,116,101]⟩:ByteArray))=false:=by decide
  have d7:decide (zse=(⟨#[115,97,109,112,108,101]⟩:ByteArray))=false:=by decide
  have d8:decide (zse=(⟨#[113,117,101,117,101]⟩:ByteArray))=false:=by decide
  have d9:decide (zse=(⟨#[119,105,110,100,111,119]⟩:ByteArray))=false:=by decide
  have d10:decide (zse=(⟨#[101,110,103,105,110,101,101,114,115]⟩:ByteArray))=true:=by decide
  (try simp(maxSteps:=1000000)(disch:=first|omega|(simp only[Z3];omega)|(simp;done)|assumption|decide|(apply not_not_intro;assumption))only[ZB,a0,b0,d0,d1,d2,d3,d4,d5,d6,d7,d8,d9,d10,zbc,zbb,zbk,zbq,zb2,zb8])
  have hr:=hres hkw (by decide)
  simp only[zi1] at hr
  refine zb24 r1 hs hwp (by omega) hk _ (fun st' hst v' H' r'=>?_) (fun hst H' s'=>?_)
  ·rw[hst] at hr
   (try simp(maxSteps:=1000000)(disch:=first|omega|(simp only[Z3];omega)|(simp;done)|assumption|decide|(apply not_not_intro;assumption))only[ZB,zuy])
   exact hok _ hr _ _ r'.unview
  ·rw[hst] at hr
   (try simp(maxSteps:=1000000)(disch:=first|omega|(simp only[Z3];omega)|(simp;done)|assumption|decide|(apply not_not_intro;assumption))only[ZB,zuz])
   exact hbad 3 hr (by decide) _ s'.tail
 have n10:decide (z8 ws 0=(⟨#[101,110,103,105,110,101,101,114,115]⟩:ByteArray))=false:=decide_eq_false hk
 have m10:¬ z8 ws 0=zse:=hk
 clear hk
 by_cases hk:z8 ws 0=zsf
 ·have hkw:zom (z8 ws 0)=some .unit:=by rw[hk];decide
  rw[hk] at b0
  have d0:decide (zsf=(⟨#[109,105,108,108,105,115]⟩:ByteArray))=false:=by decide
  have d1:decide (zsf=(⟨#[102,114,97,109,101]⟩:ByteArray))=false:=by decide
  have d2:decide (zsf=(⟨#[105,100,108,101]⟩:ByteArray))=false:=by decide
  have d3:decide (zsf=(⟨#[105,110]⟩:ByteArray))=false:=by decide
  have d4:decide (zsf=(⟨#[111,117,116]⟩:ByteArray))=false:=by decide
  have d5:decide (zsf=(⟨#[114,101,97,100]⟩:ByteArray))=false:=by decide
  have d6:decide (zsf=(⟨#[119,114,105,116,101]⟩:ByteArray))=false:=by decide
  have d7:decide (zsf=(⟨#[115,97,109,112,108,101]⟩:ByteArray))=false:=by decide
  have d8:decide (zsf=(⟨#[113,117,101,117,101]⟩:ByteArray))=false:=by decide
  have d9:decide (zsf=(⟨#[119,105,110,100,111,119]⟩:ByteArray))=false:=by decide
  have d10:decide (zsf=(⟨#[101,110,103,105,110,101,101,114,115]⟩:ByteArray))=false:=by decide
  (try simp(maxSteps:=1000000)(disch:=first|omega|(simp only[Z3];omega)|(simp;done)|assumption|decide|(apply not_not_intro;assumption))only[ZB,a0,b0,d0,d1,d2,d3,d4,d5,d6,d7,d8,d9,d10,zbc,zbb,zbk,zbq,zb2])
  have hr:=hres hkw (by decide)
  simp only[zi1] at hr
  refine zb0t r1 hs _ (fun st' hst v' H' r'=>?_) (fun hst H' s'=>?_)
  ·rw[hst] at hr
   (try simp(maxSteps:=1000000)(disch:=first|omega|(simp only[Z3];omega)|(simp;done)|assumption|decide|(apply not_not_intro;assumption))only[ZB])
   exact hok _ hr _ _ r'.unview
  ·rw[hst] at hr
   (try simp(maxSteps:=1000000)(disch:=first|omega|(simp only[Z3];omega)|(simp;done)|assumption|decide|(apply not_not_intro;assumption))only[ZB])
   exact hbad 3 hr (by decide) _ s'.tail
 have n11:decide (z8 ws 0=(⟨#[117,110,105,116]⟩:ByteArray))=false:=decide_eq_false hk
 have m11:¬ z8 ws 0=zsf:=hk
 clear hk
 by_cases hk:z8 ws 0=zr5
 ·have hkw:zom (z8 ws 0)=some .bind:=by rw[hk];decide
  rw[hk] at b0
  have d0:decide (zr5=(⟨#[109,105,108,108,105,115]⟩:ByteArray))=false:=by decide
  have d1:decide (zr5=(⟨#[102,114,97,109,101]⟩:ByteArray))=false:=by decide
  have d2:decide (zr5=(⟨#[105,100,108,101]⟩:ByteArray))=false:=by decide
  have d3:decide (zr5=(⟨#[105,110]⟩:ByteArray))=false:=by decide
  have d4:decide (zr5=(⟨#[111,117,116]⟩:ByteArray))=false:=by decide
  have d5:decide (zr5=(⟨#[114,101,97,100]⟩:ByteArray))=false:=by decide
  have d6:decide (zr5=(⟨#[119,114,105,116,101]⟩:ByteArray))=false:=by decide
  have d7:decide (zr5=(⟨#[115,97,109,112,108,101]⟩:ByteArray))=false:=by decide
  have d8:decide (zr5=(⟨#[113,117,101,117,101]⟩:ByteArray))=false:=by decide
  have d9:decide (zr5=(⟨#[119,105,110,100,111,119]⟩:ByteArray))=false:=by decide
  have d10:decide (zr5=(⟨#[101,110,103,105,110,101,101,114,115]⟩:ByteArray))=false:=by decide
  have d11:decide (zr5=(⟨#[117,110,105,116]⟩:ByteArray))=false:=by decide
  have d12:decide (zr5=(⟨#[103,101,116]⟩:ByteArray))=true:=by decide
  (try simp(maxSteps:=1000000)(disch:=first|omega|(simp only[Z3];omega)|(simp;done)|assumption|decide|(apply not_not_intro;assumption))only[ZB,a0,b0,d0,d1,d2,d3,d4,d5,d6,d7,d8,d9,d10,d11,d12,zbc,zbb,zbk,zbq,zb2,zb8,zel])
  have hr:=hres hkw (by decide)
  simp only[zi1] at hr
  refine zbs9 r1 hs hwp _ (fun st' hst v' H' r'=>?_) (fun hst H' s'=>?_)
  ·rw[hst] at hr
   (try simp(maxSteps:=1000000)(disch:=first|omega|(simp only[Z3];omega)|(simp;done)|assumption|decide|(apply not_not_intro;assumption))only[ZB,zuy])
   exact hok _ hr _ _ r'.unview
  ·rw[hst] at hr
   (try simp(maxSteps:=1000000)(disch:=first|omega|(simp only[Z3];omega)|(simp;done)|assumption|decide|(apply not_not_intro;assumption))only[ZB,zuz])
   exact hbad 3 hr (by decide) _ s'.tail
 have n12:decide (z8 ws 0=(⟨#[103,101,116]⟩:ByteArray))=false:=decide_eq_false hk
 have m12:¬ z8 ws 0=zr5:=hk
 clear hk
 by_cases hk:z8 ws 0=z36
 ·have hkw:zom (z8 ws 0)=some .bind:=by rw[hk];decide
  rw[hk] at b0
  have d0:decide (z36=(⟨#[109,105,108,108,105,115]⟩:ByteArray))=false:=by decide
  have d1:decide (z36=(⟨#[102,114,97,109,101]⟩:ByteArray))=false:=by decide
  have d2:decide (z36=(⟨#[105,100,108,101]⟩:ByteArray))=false:=by decide
  have d3:decide (z36=(⟨#[105,110]⟩:ByteArray))=false:=by decide
  have d4:decide (z36=(⟨#[111,117,116]⟩:ByteArray))=false:=by decide
  have d5:decide (z36=(⟨#[114,101,97,100]⟩:ByteArray))=false:=by decide
  have d6:decide (z36=(⟨#[119,114,105,116,101]⟩:ByteArray))=false:=by decide
  have d7:decide (z36=(⟨#[115,97,109,112,108,101]⟩:ByteArray))=false:=by decide
  have d8:decide (z36=(⟨#[113,117,101,117,101]⟩:ByteArray))=false:=by decide
  have d9:decide (z36=(⟨#[119,105,110,100,111,119]⟩:ByteArray))=false:=by decide
  have d10:decide (z36=(⟨#[101,110,103,105,110,101,101,114,115]⟩:ByteArray))=false:=by decide
  have d11:decide (z36=(⟨#[117,110,105,116]⟩:ByteArray))=false:=by decide
  have d12:decide (z36=(⟨#[103,101,116]⟩:ByteArray))=false:=by decide
  have d13:decide (z36=(⟨#[112,117,116]⟩:ByteArray))=true:=by decide
  (try simp(maxSteps:=1000000)(disch:=first|omega|(simp only[Z3];omega)|(simp;done)|assumption|decide|(apply not_not_intro;assumption))only[ZB,a0,b0,d0,d1,d2,d3,d4,d5,d6,d7,d8,d9,d10,d11,d12,d13,zbc,zbb,zbk,zbq,zb2,zb8,zel])
  have hr:=hres hkw (by decide)
  simp only[zi1] at hr
  refine zbs9 r1 hs hwp _ (fun st' hst v' H' r'=>?_) (fun hst H' s'=>?_)
  ·rw[hst] at hr
   (try simp(maxSteps:=1000000)(disch:=first|omega|(simp only[Z3];omega)|(simp;done)|assumption|decide|(apply not_not_intro;assumption))only[ZB,zuy])
   exact hok _ hr _ _ r'.unview
  ·rw[hst] at hr
   (try simp(maxSteps:=1000000)(disch:=first|omega|(simp only[Z3];omega)|(simp;done)|assumption|decide|(apply not_not_intro;assumption))only[ZB,zuz])
   exact hbad 3 hr (by decide) _ s'.tail
 have n13:decide (z8 ws 0=(⟨#[112,117,116]⟩:ByteArray))=false:=decide_eq_false hk
 have m13:¬ z8 ws 0=z36:=hk
 clear hk
 by_cases hk:z8 ws 0=zoc
 ·have hkw:zom (z8 ws 0)=some .user:=by rw[hk];decide
  rw[hk] at b0
  have d0:decide (zoc=(⟨#[109,105,108,108,105,115]⟩:ByteArray))=false:=by decide
  have d1:decide (zoc=(⟨#[102,114,97,109,101]⟩:ByteArray))=false:=by decide
  have d2:decide (zoc=(⟨#[105,100,108,101]⟩:ByteArray))=false:=by decide
  have d3:decide (zoc=(⟨#[105,110]⟩:ByteArray))=false:=by decide
  have d4:decide (zoc=(⟨#[111,117,116]⟩:ByteArray))=false:=by decide
  have d5:decide (zoc=(⟨#[114,101,97,100]⟩:ByteArray))=false:=by decide
  have d6:decide (zoc=(⟨#[119,114,105,116,101]⟩:ByteArray))=false:=by decide
  have d7:decide (zoc=(⟨#[115,97,109,112,108,101]⟩:ByteArray))=false:=by decide
  have d8:decide (zoc=(⟨#[113,117,101,117,101]⟩:ByteArray))=false:=by decide
  have d9:decide (zoc=(⟨#[119,105,110,100,111,119]⟩:ByteArray))=false:=by decide
  have d10:decide (zoc=(⟨#[101,110,103,105,110,101,101,114,115]⟩:ByteArray))=false:=by decide
  have d11:decide (zoc=(⟨#[117,110,105,116]⟩:ByteArray))=false:=by decide
  have d12:decide (zoc=(⟨#[103,101,116]⟩:ByteArray))=false:=by decide
  have d13:decide (zoc=(⟨#[112,117,116]⟩:ByteArray))=false:=by decide
  have d14:decide (zoc=(⟨#[117,115,101,114]⟩:ByteArray))=true:=by decide
  (try simp(maxSteps:=1000000)(disch:=first|omega|(simp only[Z3];omega)|(simp;done)|assumption|decide|(apply not_not_intro;assumption))only[ZB,a0,b0,d0,d1,d2,d3,d4,d5,d6,d7,d8,d9,d10,d11,d12,d13,d14,zbc,zbb,zbk,zbq,zb2,zb8,zel,zim])
  have hr:=hres hkw (by decide)
  simp only[zi1] at hr
  refine zb0r r1 hs hwp hwz hk _ (fun st' hst v' H' r'=>?_) (fun hst H' s'=>?_)
  ·rw[hst] at hr
   (try simp(maxSteps:=1000000)(disch:=first|omega|(simp only[Z3];omega)|(simp;done)|assumption|decide|(apply not_not_intro;assumption))only[ZB,zuy])
   exact hok _ hr _ _ r'.unview
  ·rw[hst] at hr
   (try simp(maxSteps:=1000000)(disch:=first|omega|(simp only[Z3];omega)|(simp;done)|assumption|decide|(apply not_not_intro;assumption))only[ZB,zuz])
   exact hbad 3 hr (by decide) _ s'.tail
 have n14:decide (z8 ws 0=(⟨#[117,115,101,114]⟩:ByteArray))=false:=decide_eq_false hk
 have m14:¬ z8 ws 0=zoc:=hk
 clear hk
 by_cases hk:z8 ws 0=znf
 ·have hkw:zom (z8 ws 0)=some .role:=by rw[hk];decide
  rw[hk] at b0
  have d0:decide (znf=(⟨#[109,105,108,108,105,115]⟩:ByteArray))=false:=by decide
  have d1:decide (znf=(⟨#[102,114,97,109,101]⟩:ByteArray))=false:=by decide
  have d2:decide (znf=(⟨#[105,100,108,101]⟩:ByteArray))=false:=by decide
  have d3:decide (znf=(⟨#[105,110]⟩:ByteArray))=false:=by decide
  have d4:decide (znf=(⟨#[111,117,116]⟩:ByteArray))=false:=by decide
  have d5:decide (znf=(⟨#[114,101,97,100]⟩:ByteArray))=false:=by decide
  have d6:decide (znf=(⟨#[119,114,105,116,101]⟩:ByteArray))=false:=by decide
  have d7:decide (znf=(⟨#[115,97,109,112,108,101]⟩:ByteArray))=false:=by decide
  have d8:decide (znf=(⟨#[113,117,101,117,101]⟩:ByteArray))=false:=by decide
  have d9:decide (znf=(⟨#[119,105,110,100,111,119]⟩:ByteArray))=false:=by decide
  have d10:decide (znf=(⟨#[101,110,103,105,110,101,101,114,115]⟩:ByteArray))=false:=by decide
  have d11:decide (znf=(⟨#[117,110,105,116]⟩:ByteArray))=false:=by decide
  have d12:decide (znf=(⟨#[103,101,116]⟩:ByteArray))=false:=by decide
  have d13:decide (znf=(⟨#[112,117,116]⟩:ByteArray))=false:=by decide
  have d14:decide (znf=(⟨#[117,115,101,114]⟩:ByteArray))=false:=by decide
  have d15:decide (znf=(⟨#[114,111,108,101]⟩:ByteArray))=true:=by decide
  (try simp(maxSteps:=1000000)(disch:=first|omega|(simp only[Z3];omega)|(simp;done)|assumption|decide|(apply not_not_intro;assumption))only[ZB,a0,b0,d0,d1,d2,d3,d4,d5,d6,d7,d8,d9,d10,d11,d12,d13,d14,d15,zbc,zbb,zbk,zbq,zb2,zb8,zel,zim])
  have hr:=hres hkw (by decide)
  simp only[zi1] at hr
  refine zb0s r1 hs hwp hk _ (fun st' hst v' H' r'=>?_) (fun hst H' s'=>?_)
  ·rw[hst] at hr
   (try simp(maxSteps:=1000000)(disch:=first|omega|(simp only[Z3];omega)|(simp;done)|assumption|decide|(apply not_not_intro;assumption))only[ZB,zuy])
   exact hok _ hr _ _ r'.unview
  ·rw[hst] at hr
   (try simp(maxSteps:=1000000)(disch:=first|omega|(simp only[Z3];omega)|(simp;done)|assumption|decide|(apply not_not_intro;assumption))only[ZB,zuz])
   exact hbad 3 hr (by decide) _ s'.tail
 have n15:decide (z8 ws 0=(⟨#[114,111,108,101]⟩:ByteArray))=false:=decide_eq_false hk
 have m15:¬ z8 ws 0=znf:=hk
 clear hk
 have hkn:zom (z8 ws 0)=none:=by
  unfold zom
  rw[if_neg m0,if_neg m1,if_neg m2,if_neg m3,if_neg m4,if_neg m5,if_neg m6,if_neg m7,if_neg m8,if_neg m9,if_neg m10,if_neg m11,if_neg m12,if_neg m13,if_neg m14,if_neg m15]
 rw[hkn] at hline
 (try simp(maxSteps:=1000000)(disch:=first|omega|(simp only[Z3];omega)|(simp;done)|assumption|decide|(apply not_not_intro;assumption))only[ZB,a0,b0,n0,n1,n2,n3,n4,n5,n6,n7,n8,n9,n10,n11,n12,n13,n14,n15,zbc,zt5,zbb,zbk,zbq,zb2,zb8,zel,zim])
 exact hbad 3 hline (by decide) _ r1.unview.rest
end Go.AM.Cap
