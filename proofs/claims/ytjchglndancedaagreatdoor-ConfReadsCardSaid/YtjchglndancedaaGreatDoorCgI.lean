import Derived.Test.YtjchglndancedaaGreatDoorCgG
import Derived.Test.YtjchglndancedaaGreatDoorAmOpenF
set_option linter.all false
/- conf, the document: bytes of zyu -/
set_option maxHeartbeats 16000000
namespace Go.AM.Cap
open Go.AM Go.Proofs
variable {H0 H:Heap}
def hx (b:BitVec 8):Nat→Int
 | 0=>-1
 | k + 1=>if (bv zj1).getD k 0=b then (k:Int) else hx b k
theorem hx16:∀ b:BitVec 8,hx b 16=match z2l b with
 | some d=>(d:Int)
 | none=>-1:=by decide +kernel
theorem zbv7 {s acc iv bvl jv ij:V} {w:ByteArray} {c:BitVec 8} (hs:s = .string w) (ea:zr .add iv jv=some ij) (ec:zj3 (.string w) ij=some (B c)) (Q:Out→Heap→Prop) (hQ:Q (.brk 4 [s,.string zj1,acc,iv,bvl,jv,i64 (hx c 16)]) H) :
  wp (zbf zbs zm5 [s,.string zj1,acc,iv,bvl,jv,i64 (-1),i64 0]) Q H:=by
 subst hs
 refine zbt 16 (by omega) (fun j vs H'=>vs=[.string w,.string zj1,acc,iv,bvl,jv,i64 (hx c j),i64 j]∧H'=H) ⟨rfl,rfl⟩ ?_
 rintro j vs H1 hj ⟨rfl,rfl⟩
 by_cases hlt:j < 16
 case neg =>
  have:j=16:=by omega
  subst this
  (try simp(maxSteps:=1000000)(disch:=first|omega|(simp only[Z3];omega)|(simp;done)|assumption|decide|(apply not_not_intro;assumption))only[ZB,zm5])
  exact hQ
 have hsz:zj1.size=16:=rfl
 have ix:=zi9 (s:=zj1) (k := .i64) (i:=j) (by omega) (by omega)
 rw[Int.toNat_natCast] at ix
 by_cases q:(bv zj1).getD j 0=c
 ·have e1:decide ((((bv zj1).getD j 0).toNat:Int)=(c.toNat:Int))=true:=decide_eq_true (by rw[q])
  have e2:hx c (j + 1)=(j:Int):=by rw[hx,if_pos q]
  (try simp(maxSteps:=1000000)(disch:=first|omega|(simp only[Z3];omega)|(simp;done)|assumption|decide|(apply not_not_intro;assumption))only[ZB,zm5,zx4,zx3,ix,ea,ec,e1])
  exact⟨hlt,by rw[e2];exact⟨rfl,trivial⟩⟩
 ·have e1:decide ((((bv zj1).getD j 0).toNat:Int)=(c.toNat:Int))=false:=decide_eq_false fun r=>q (BitVec.eq_of_toNat_eq (by omega))
  have e2:hx c (j + 1)=hx c j:=by rw[hx,if_neg q]
  (try simp(maxSteps:=1000000)(disch:=first|omega|(simp only[Z3];omega)|(simp;done)|assumption|decide|(apply not_not_intro;assumption))only[ZB,zm5,zx4,zx3,ix,ea,ec,e1])
  exact⟨hlt,by rw[e2];exact⟨rfl,trivial⟩⟩
theorem zb0q {acc:V} {w:ByteArray} {i:Nat} (hi:i + 1 < w.size) (hw:w.size≤1000000) (Q:Out→Heap→Prop)
  (hok:∀ x y,z2l ((bv w).getD i 0)=some x→z2l ((bv w).getD (i + 1) 0)=some y→Q (.brk 2 [.string w,.string zj1,acc,i64 i,i64 ((x * 16 + y:Nat):Int)]) H)
  (hbad:(z2l ((bv w).getD i 0)=none∨z2l ((bv w).getD (i + 1) 0)=none)→Q (.ret [.string ⟨#[]⟩,.bool false]) H):wp (zbf zbs zm7 [.string w,.string zj1,acc,i64 i,i64 0,i64 0]) Q H:=by
 have i0:=zi9 (s:=w) (k := .i64) (i:=(i:Int)) (by omega) (by omega)
 have i1:=zi9 (s:=w) (k := .i64) (i:=(i:Int) + 1) (by omega) (by omega)
 rw[Int.toNat_natCast] at i0
 rw[show ((i:Int) + 1).toNat=i + 1 by omega] at i1
 generalize (bv w).getD i 0=a at *
 generalize (bv w).getD (i + 1) 0=b at *
 have ea0:zr .add (i64 (i:Int)) (i64 0)=some (i64 (i:Int)):=by
  show some (Value.int .i64 (IntKind.wrap .i64 ((i:Int) + 0)))=_
  rw[Int.add_zero,i64_in (by omega) (by omega)]
 have ea1:zr .add (i64 (i:Int)) (i64 1)=some (i64 ((i:Int) + 1)):=by
  show some (Value.int .i64 (IntKind.wrap .i64 ((i:Int) + 1)))=_
  rw[i64_in (by omega) (by omega)]
 refine zbt 2 (by omega) (fun j vs H'=>∃ z:Nat,vs=[.string w,.string zj1,acc,i64 i,i64 z,i64 j]∧H'=H∧((j=0∧z=0)∨(j=1∧z2l a=some z)∨(j=2∧∃ x y,z2l a=some x∧z2l b=some y∧z=x * 16 + y))) ⟨0,rfl,rfl,.inl ⟨rfl,rfl⟩⟩ ?_
 rintro j vs H1 hj ⟨z,rfl,rfl,hcase⟩
 rcases hcase with⟨rfl,rfl⟩ | ⟨rfl,ha⟩ | ⟨rfl,x,y,ha,hb,rfl⟩
 ·(try simp(maxSteps:=1000000)(disch:=first|omega|(simp only[Z3];omega)|(simp;done)|assumption|decide|(apply not_not_intro;assumption))only[ZB,zm7,zx7])
  refine zbv7 rfl ea0 i0 _ ?_
  rw[hx16]
  cases ha:z2l a with
  | none =>
   (try simp(maxSteps:=1000000)(disch:=first|omega|(simp only[Z3];omega)|(simp;done)|assumption|decide|(apply not_not_intro;assumption))only[ZB,zm6])
   exact hbad (.inl ha)
  | some x =>
   have xl:=(zyw ha).2
   have e1:decide ((x:Int) < 0)=false:=decide_eq_false (by omega)
   (try simp(maxSteps:=1000000)(disch:=first|omega|(simp only[Z3];omega)|(simp;done)|assumption|decide|(apply not_not_intro;assumption))only[ZB,zm6,zx5,zx6,e1])
   exact⟨by omega,x,by simp,.inr (.inl (by first | exact⟨rfl,rfl⟩ | rfl))⟩
 ·have zl:=(zyw ha).2
  (try simp(maxSteps:=1000000)(disch:=first|omega|(simp only[Z3];omega)|(simp;done)|assumption|decide|(apply not_not_intro;assumption))only[ZB,zm7,zx7])
  refine zbv7 rfl ea1 i1 _ ?_
  rw[hx16]
  cases hb:z2l b with
  | none =>
   (try simp(maxSteps:=1000000)(disch:=first|omega|(simp only[Z3];omega)|(simp;done)|assumption|decide|(apply not_not_intro;assumption))only[ZB,zm6])
   exact hbad (.inr hb)
  | some y =>
   have yl:=(zyw hb).2
   have e1:decide ((y:Int) < 0)=false:=decide_eq_false (by omega)
   (try simp(maxSteps:=1000000)(disch:=first|omega|(simp only[Z3];omega)|(simp;done)|assumption|decide|(apply not_not_intro;assumption))only[ZB,zm6,zx5,zx6,e1])
   exact⟨by omega,z * 16 + y,by push_cast;rfl,.inr (.inr (by first | exact⟨rfl,z,y,ha,rfl,rfl⟩ | exact⟨z,y,ha,rfl,rfl⟩))⟩
 ·(try simp(maxSteps:=1000000)(disch:=first|omega|(simp only[Z3];omega)|(simp;done)|assumption|decide|(apply not_not_intro;assumption))only[ZB,zm7])
  exact hok x y ha hb
theorem zbxx (w:ByteArray) (hw:w.size≤1000000) (Q:V→Heap→Prop) (hok:∀ r,ze3 (bv w)=some r→∀ H',Keeps [] H H'→Q (.tuple #[.string (sv r),.bool true]) H') (hbad:ze3 (bv w)=none→∀ H',Keeps [] H H'→Q (.tuple #[.string zeq,.bool false]) H'):wp (ztb [.string w]) Q H:=by
 show wp (zta (.string w)) Q H
 have hiff:=zbdk (bv w)
 have hlen:=zct w
 have hlit:(Value.string ⟨#[48,49,50,51,52,53,54,55,56,57,97,98,99,100,101,102]⟩:V) = .string zj1:=rfl
 have erem:zr .rem (i64 (w.size:Int)) (Value.int .i64 2)=some (i64 ((w.size % 2:Nat):Int)):=by
  show (if (2:Int)=0 then none else some (Value.int .i64 ((w.size:Int).tmod 2)))=_
  rw[if_neg (by decide)]
  have:(w.size:Int).tmod 2=((w.size % 2:Nat):Int):=by
   rw[Int.tmod_eq_emod_of_nonneg (by omega)];omega
  rw[this]
 by_cases c1:w.size % 2=0
 case neg =>
  have e1:decide (((w.size % 2:Nat):Int)≠0)=true:=decide_eq_true (by omega)
  have hn:ze3 (bv w)=none:=by
   cases hu:ze3 (bv w) with
   | none=>rfl
   | some r=>rw[hu,hlen,decide_eq_false c1] at hiff;cases hiff
  (try simp(maxSteps:=1000000)(disch:=first|omega|(simp only[Z3];omega)|(simp;done)|assumption|decide|(apply not_not_intro;assumption))only[ZB,zta,erem,e1])
  exact hbad hn H (Keeps.refl _ _)
 have e1:decide (((w.size % 2:Nat):Int)≠0)=false:=decide_eq_false (by omega)
 (try simp(maxSteps:=1000000)(disch:=first|omega|(simp only[Z3];omega)|(simp;done)|assumption|decide|(apply not_not_intro;assumption))only[ZB,zta,erem,e1,z42,hlit])
 refine zbt (w.size / 2) (by omega) (fun j vs H'=>∃ (v:V) (acc:List (BitVec 8)),vs=[.string w,.string zj1,v,i64 ((2 * j:Nat):Int)]∧acc.length=j∧Hp H H' [own v acc]∧ze3 (bv w)=(ze3 ((bv w).drop (2 * j))).map (acc ++ ·)) ⟨.slice none 0 0,[],rfl,rfl,(Hp.start H).nilo,by rw[Nat.mul_zero,List.drop_zero];cases ze3 (bv w) <;> rfl⟩ ?_
 rintro j vs H2 hj ⟨v,acc,rfl,hacc,s2,hu⟩
 by_cases hlt:j < w.size / 2
 case neg =>
  have hj2:2 * j=w.size:=by omega
  have hdr:(bv w).drop (2 * j)=[]:=List.drop_of_length_le (by omega)
  rw[hdr] at hu
  have hr:ze3 (bv w)=some acc:=by rw[hu];simp[ze3]
  have e4:decide (((2 * j:Nat):Int) < (w.size:Int))=false:=decide_eq_false (by omega)
  (try simp(maxSteps:=1000000)(disch:=first|omega|(simp only[Z3];omega)|(simp;done)|assumption|decide|(apply not_not_intro;assumption))only[ZB,zut,e4,z41])
  refine zbre (s2.own (i:=0) rfl) ?_
  (try simp(maxSteps:=1000000)(disch:=first|omega|(simp only[Z3];omega)|(simp;done)|assumption|decide|(apply not_not_intro;assumption))only[ZB])
  exact hok _ hr _ s2.keeps
 have e4:decide (((2 * j:Nat):Int) < (w.size:Int))=true:=decide_eq_true (by omega)
 have hd:(bv w).drop (2 * j)=(bv w).getD (2 * j) 0 :: (bv w).getD (2 * j + 1) 0 :: (bv w).drop (2 * (j + 1)):=by
  rw[z2h (bv w) (2 * j) 0 (by omega),z2h (bv w) (2 * j + 1) 0 (by omega)]
  rfl
 rw[hd,ze3] at hu
 (try simp(maxSteps:=1000000)(disch:=first|omega|(simp only[Z3];omega)|(simp;done)|assumption|decide|(apply not_not_intro;assumption))only[ZB,zut,z40,e4])
 refine zb0q (i:=2 * j) (by omega) hw _ (fun x y ha hb=>?_) fun hor=>?_
 ·rw[ha,hb] at hu
  obtain⟨_,xl⟩:=zyw ha
  obtain⟨_,yl⟩:=zyw hb
  obtain⟨_,_,b3⟩:=zbsz xl yl
  (try simp(maxSteps:=1000000)(disch:=first|omega|(simp only[Z3];omega)|(simp;done)|assumption|decide|(apply not_not_intro;assumption))only[ZA,zbh,zp,zo,zm,zi,zf,zh,zd,z7h,b3])
  refine zf5 (α:=BitVec 8) (n:=1) (ys:=[BitVec.ofNat 8 (x * 16 + y)]) s2 (i:=0) rfl rfl (by decide) (by rw[show rep 1 [Value.int .u8 0]=[Value.int .u8 0] from rfl,zd rfl (by decide),zba];rfl) rfl (by rw[hacc];omega) (by rw[hacc];omega) fun v' H3 s3=>?_
  (try simp(maxSteps:=1000000)(disch:=first|omega|(simp only[Z3];omega)|(simp;done)|assumption|decide|(apply not_not_intro;assumption))only[ZB,z7i])
  refine⟨hlt,v',acc ++ [BitVec.ofNat 8 (x * 16 + y)],?_,by rw[List.length_append,hacc];rfl,s3,?_⟩
  ·rw[show 2 * (j + 1)=2 * j + 2 by omega]
   push_cast
   rfl
  ·rw[hu]
   cases ze3 ((bv w).drop (2 * (j + 1))) with
   | none=>rfl
   | some r=>simp
 ·have hn:ze3 (bv w)=none:=by
   rw[hu]
   rcases hor with ha | hb
   ·rw[ha];rfl
   ·rw[hb]
    cases z2l ((bv w).getD (2 * j) 0) <;> rfl
  (try simp(maxSteps:=1000000)(disch:=first|omega|(simp only[Z3];omega)|(simp;done)|assumption|decide|(apply not_not_intro;assumption))only[ZB])
  exact hbad hn _ s2.keeps
end Go.AM.Cap

/- conf, the document: lines of users and of roles -/
set_option maxHeartbeats 16000000
namespace Go.AM.Cap
open Go.AM Go.Proofs
variable {H0 H:Heap} {R:Nat} {v:RV} {st:RSt} {L:List Thing}
theorem zb0r {wv:V} {ws:List ByteArray} (h:ReadAt H0 H R v st (view wv ws :: L)) (hs:Sm st 1000000) (hw:1≤ws.length) (hwz:∀ w∈ws,w.size≤1000000) (hk:z8 ws 0=zoc):zfp H0 H R (view wv ws :: L) (znh st ws) (zg4 [ptr R 0,wv]):=by
 intro Q hok hbad
 show wp (zd3 (ptr R 0) wv) Q H
 have hlen:=h.words.len
 by_cases c1:ws.length=3
 case neg =>
  have e:znh st ws=none:=by rw[znh,if_neg c1]
  have e1:decide ((ws.length:Int)≠3)=true:=decide_eq_true (by omega)
  (try simp(maxSteps:=1000000)(disch:=first|omega|(simp only[Z3];omega)|(simp;done)|assumption|decide|(apply not_not_intro;assumption))only[ZB,zd3,hlen,e1])
  exact hbad e _ h.rest
 have e1:decide ((ws.length:Int)≠3)=false:=decide_eq_false (by omega)
 obtain⟨a0,b0⟩:=wd0 h.words (by omega)
 rw[hk] at b0
 have d0:decide (zoc=(⟨#[117,115,101,114]⟩:ByteArray))=true:=by decide
 obtain⟨a2,b2⟩:=wd h.words (i:=2) (n:=2) (by omega) rfl
 (try simp(maxSteps:=1000000)(disch:=first|omega|(simp only[Z3];omega)|(simp;done)|assumption|decide|(apply not_not_intro;assumption))only[ZA,zbh,zp,zo,zm,zf,zg,zh,zd,zd3,hlen,e1,zm9,a0,b0,d0,a2,b2])
 have hul:v.uz.length≤1000000:=by have:=hs.us;rw[← h.us,List.length_map] at this;exact this
 have fin:∀ (key:ByteArray) (ok:Bool) (H1:Heap),Keeps [] H H1→(∀ v' H',ReadAt H0 H' R v' (addS st ⟨z8 ws 1,key,[]⟩) (view wv ws :: L)→Q (.bool ok) H') →
   wp (zhc fun h0 =>
   zb (za (zbo (ptr R 0))) fun x27 =>
   zb (za (ze 0 x27)) fun x28 =>
   zb (za (ze 7 x28)) fun x29 =>
   zb (za (zq 1 wv (Value.int .i64 1))) fun x32 =>
   zb (zz x29) fun x30 =>
   zb (zz x32) fun x33 =>
   zb (za (build [Value.string ⟨#[]⟩,Value.string ⟨#[]⟩,Value.slice none 0 0] [(0,1,x33),(1,1,.string key)])) fun x35 =>
   zb4 (zcz 3 1 (rep 1 [Value.string ⟨#[]⟩,Value.string ⟨#[]⟩,Value.slice none 0 0]) [(0,3,x35)]) fun ha x36 h1 =>
   zb4 (zc4 3 56 x30 x36) fun ha_2 x37 h2 =>
   zb (za (zbo (ptr R 0))) fun x38 =>
   zb (za (ze 0 x38)) fun x39 =>
   zb (za (ze 7 x39)) fun x40 =>
   zb4 (st1 x40 x37) fun ha_3 u h3 =>
   zfi (chk (zz x29) h1 x30) <|
   ret (.ret [.bool ok])) (fun o H'=>wp (nx o zm8) (fun o H'=>wp (zbg o fun vs=>ret (zbe [zc vs 0])) Q H') H') H1:=by
  intro key ok H1 k1 hfin
  have r1:=h.keep0 k1
  obtain⟨a1,b1⟩:=wd r1.words (i:=1) (n:=1) (by omega) rfl
  have g:=r1.get
  have hone:=r1.hp.own (i:=6) rfl
  unfold RV.cells at g
  (try simp(maxSteps:=1000000)(disch:=first|omega|(simp only[Z3];omega)|(simp;done)|assumption|decide|(apply not_not_intro;assumption))only[ZA,zbh,zp,zo,zm,zf,zg,zh,zd,g,a1,b1])
  have hf:zbn (rep 1 [Value.string ⟨#[]⟩,Value.string ⟨#[]⟩,Value.slice none 0 0]) [(0,3,.agg #[.string (z8 ws 1),.string key,.slice none 0 0])]=some (zbm ([⟨z8 ws 1,key,default⟩]:List Us)):=by
   show zbn _ [(0,3,.agg ([.string (z8 ws 1),.string key,.slice none 0 0]:List V).toArray)]=_
   rw[zi (n:=3) rfl rfl (by decide),zba]
   rfl
  refine zgl (α:=Us) (n:=3) (ys:=[⟨z8 ws 1,key,default⟩]) r1.hp (i:=6) rfl rfl (by decide) hf rfl (by omega) (by decide) fun w2 H2 H3 k2 s2=>?_
  have g1:=k2.get r1.get (by simp)
  have ck:zgm (zdk (H2.get R) 7) v.sv=true:=by rw[g1];exact zen hone.sl
  have g2:=s2.get (i:=0) rfl
  unfold RV.cells at g2
  have n2:=Heap.get_lt g2
  have ow:=(s2.own (i:=6) rfl).isOne
  (try simp(maxSteps:=1000000)(disch:=first|omega|(simp only[Z3];omega)|(simp;done)|assumption|decide|(apply not_not_intro;assumption))only[ZB,g2])
  simp only[ow,true_and]
  have s3:=s2.set (i:=0) rfl ({ v with sv:=w2 }.cells st)
  have s4:=zbs1 (v:=v) (st:=st) (sw:=w2) (z8 ws 1) key (by exact s3)
  unfold RV.cells at s4 s3
  have r3:ReadAt H0 _ R { v with sv:=w2,uz:=v.uz ++ [⟨z8 ws 1,key,default⟩] } (addS st ⟨z8 ws 1,key,[]⟩) (view wv ws :: L):=⟨s4,h.uns,by simp only[addS];rw[List.map_append,h.us];rfl⟩
  (try simp(maxSteps:=1000000)(disch:=first|omega|(simp only[Z3];omega)|(simp;done)|assumption|decide|(apply not_not_intro;assumption))only[ZB,ck])
  exact hfin _ _ r3
 refine zbxx (z8 ws 2) (hwz _ (z38 (by omega))) _ (fun r hr H1 k1=>?_) fun hn H1 k1=>?_
 ·have e:znh st ws=some (addS st ⟨z8 ws 1,sv r,[]⟩):=by rw[znh,if_pos c1,hr]
  have:=fin (sv r) true H1 k1 fun v' H' r3=>hok _ e v' H' r3
  (try simp(maxSteps:=1000000)(disch:=first|omega|(simp only[Z3];omega)|(simp;done)|assumption|decide|(apply not_not_intro;assumption))only[ZA,zbh,zp,zo,zm,zf,zg,zh,zd] at this)
  (try simp(maxSteps:=1000000)(disch:=first|omega|(simp only[Z3];omega)|(simp;done)|assumption|decide|(apply not_not_intro;assumption))only[ZA,zbh,zp,zo,zm,zf,zg,zh,zd])
  exact this
 ·have e:znh st ws=none:=by rw[znh,if_pos c1,hn]
  have:=fin zeq false H1 k1 fun v' H' r3=>hbad e H' r3.rest
  (try simp(maxSteps:=1000000)(disch:=first|omega|(simp only[Z3];omega)|(simp;done)|assumption|decide|(apply not_not_intro;assumption))only[ZA,zbh,zp,zo,zm,zf,zg,zh,zd] at this)
  (try simp(maxSteps:=1000000)(disch:=first|omega|(simp only[Z3];omega)|(simp;done)|assumption|decide|(apply not_not_intro;assumption))only[ZA,zbh,zp,zo,zm,zf,zg,zh,zd])
  exact this
theorem zb0s {wv:V} {ws:List ByteArray} (h:ReadAt H0 H R v st (view wv ws :: L)) (hs:Sm st 1000000) (hw:1≤ws.length) (hk:z8 ws 0=znf):zfp H0 H R (view wv ws :: L) (zgw st ws) (zg4 [ptr R 0,wv]):=by
 intro Q hok hbad
 show wp (zd3 (ptr R 0) wv) Q H
 have hlen:=h.words.len
 have hul:st.us.length=v.uz.length:=by rw[← h.us,List.length_map]
 have hle:=hs.us
 by_cases c1:ws.length=3
 case neg =>
  have e:zgw st ws=none:=by rw[zgw,if_neg (fun q=>c1 q.1)]
  have e1:decide ((ws.length:Int)≠3)=true:=decide_eq_true (by omega)
  (try simp(maxSteps:=1000000)(disch:=first|omega|(simp only[Z3];omega)|(simp;done)|assumption|decide|(apply not_not_intro;assumption))only[ZB,zd3,hlen,e1])
  exact hbad e _ h.rest
 have e1:decide ((ws.length:Int)≠3)=false:=decide_eq_false (by omega)
 obtain⟨a0,b0⟩:=wd0 h.words (by omega)
 rw[hk] at b0
 have d0:decide (znf=(⟨#[117,115,101,114]⟩:ByteArray))=false:=by decide
 have g:=h.get
 have hout:=(h.hp.own (i:=6) rfl)
 have hol:=hout.len
 unfold RV.cells at g
 obtain⟨a1,b1⟩:=wd h.words (i:=1) (n:=1) (by omega) rfl
 obtain⟨a2,b2⟩:=wd h.words (i:=2) (n:=2) (by omega) rfl
 have e5:zr .sub (i64 (v.uz.length:Int)) (Value.int .i64 1)=some (i64 ((v.uz.length:Int) - 1)):=by
  show some (Value.int .i64 (IntKind.wrap .i64 ((v.uz.length:Int) - 1)))=_
  rw[i64_in (by omega) (by omega)]
 (try simp(maxSteps:=1000000)(disch:=first|omega|(simp only[Z3];omega)|(simp;done)|assumption|decide|(apply not_not_intro;assumption))only[ZB,zd3,hlen,e1,zm9,a0,b0,d0,zm8,g,hol,e5,a1,b1])
 refine zbku (z8 ws 1) _ ?_
 generalize hnum:zhm (z8 ws 1)=nm at *
 obtain⟨n,ok⟩:=nm
 (try simp(maxSteps:=1000000)(disch:=first|omega|(simp only[Z3];omega)|(simp;done)|assumption|decide|(apply not_not_intro;assumption))only[ZB,a2,b2])
 refine zbxw _ fun t1 H1 k1 t1s=>?_
 have r1:=h.keep0 k1
 obtain⟨_,b2'⟩:=wd r1.words (i:=2) (n:=2) (by omega) rfl
 (try simp(maxSteps:=1000000)(disch:=first|omega|(simp only[Z3];omega)|(simp;done)|assumption|decide|(apply not_not_intro;assumption))only[ZB])
 refine z2n t1s (by decide) (z8 ws 2) _ ?_
 cases ok with
 | false =>
  have e:zgw st ws=none:=by rw[zgw,if_neg (by rw[hnum];exact fun q=>by cases q.2.2.2)]
  (try simp(maxSteps:=1000000)(disch:=first|omega|(simp only[Z3];omega)|(simp;done)|assumption|decide|(apply not_not_intro;assumption))only[ZB,b2',zbkv])
  exact hbad e _ r1.rest
 | true =>
 by_cases c2:v.uz.length=0
 ·have e:zgw st ws=none:=by rw[zgw,if_neg (fun q=>q.2.1 (List.eq_nil_of_length_eq_zero (by omega)))]
  have e2:decide ((v.uz.length:Int) - 1 < 0)=true:=decide_eq_true (by omega)
  (try simp(maxSteps:=1000000)(disch:=first|omega|(simp only[Z3];omega)|(simp;done)|assumption|decide|(apply not_not_intro;assumption))only[ZB,b2',e2])
  exact hbad e _ r1.rest
 have e2:decide ((v.uz.length:Int) - 1 < 0)=false:=decide_eq_false (by omega)
 by_cases c3:zcc (z8 ws 2)=0
 ·have e:zgw st ws=none:=by rw[zgw,if_neg (fun q=>q.2.2.1 c3)]
  have ed:=zb41 c3
  (try simp(maxSteps:=1000000)(disch:=first|omega|(simp only[Z3];omega)|(simp;done)|assumption|decide|(apply not_not_intro;assumption))only[ZB,b2',e2,ed])
  exact hbad e _ r1.rest
 obtain⟨ed,ef⟩:=zb22 c3
 rw[ed]
 have e:zgw st ws=some (addR st ⟨n,zcc (z8 ws 2)⟩):=by
  rw[zgw,if_pos ⟨c1,fun q=>by rw[q] at hul;simp at hul;omega,c3,by rw[hnum]⟩,hnum]
 obtain⟨k,hk⟩:∃ k,v.uz.length=k + 1:=⟨v.uz.length - 1,by omega⟩
 have hkl:k < v.uz.length:=by omega
 have ek:((v.uz.length:Int) - 1)=(k:Int):=by omega
 rw[ek] at e2 ⊢
 have g1:=r1.get
 unfold RV.cells at g1
 have hout1:=(r1.hp.own (i:=6) rfl)
 have a3:=hout1.sl.addr' (n:=3) rfl (k := .i64) (i:=(k:Int)) (by omega) (by omega)
 rw[Int.toNat_natCast] at a3
 have c6:=hout1.sl.cell' (n:=3) rfl (off:=2) hkl (by omega) default
 rw[zbj] at c6
 have e7:(Flat.enc (v.uz.getD k default))[2]? = some (v.uz.getD k default).rs.v:=rfl
 rw[e7] at c6
 have hmem:(v.uz.getD k default).p∈st.us:=by rw[← h.us];exact List.mem_map_of_mem (zci hkl)
 have hrol:=hs.rol _ hmem
 simp only[Us.p] at hrol
 (try simp(maxSteps:=1000000)(disch:=first|omega|(simp only[Z3];omega)|(simp;done)|assumption|decide|(apply not_not_intro;assumption))only[ZA,zp,zm,zf,zg,zh,zd,b2',e2,ef,zt4,g1,a3,c6])
 have hf:zbn (rep 1 [Value.int .i64 0,Value.int .i64 0]) [(0,2,.agg #[i64 n,i64 (zcc (z8 ws 2))])]=some (zbm ([⟨n,zcc (z8 ws 2)⟩]:List Rl)):=by
  show zbn _ [(0,2,.agg ([i64 n,i64 (zcc (z8 ws 2))]:List V).toArray)]=_
  rw[zi (n:=2) rfl rfl (by decide),zba]
  rfl
 have hgi:(unT v.uns ++ (usT v.uz ++ (view wv ws :: L)))[(unT v.uns).length + k]? = some (own (v.uz.getD k default).rs.v (v.uz.getD k default).rs.xs):=by rw[zuh];exact zbpz hkl
 have s3:Hp H0 H1 (cel R (v.cells st) :: own v.pv st.sy.pts :: own v.gv st.sy.grs :: own v.qv st.sy.prs :: own v.wv st.sy.wins :: own v.uv v.uns :: own v.sv v.uz :: own v.ov st.once :: (unT v.uns ++ (usT v.uz ++ (view wv ws :: L)))):=r1.hp
 refine zgl (α:=Rl) (n:=2) (ys:=[⟨n,zcc (z8 ws 2)⟩]) s3 (i:=(unT v.uns).length + k + 8) hgi rfl (by decide) hf rfl (by omega) (by decide) fun w2 H4 H5 k4 s5=>?_
 have g4:=k4.get r1.get (by simp)
 have ck1:zgm (zdk (H4.get R) 7) v.sv=true:=by rw[g4];exact zen hout1.sl
 have c7:=(hout1.sl.keep0 k4).cell' (n:=3) rfl (off:=2) hkl (by omega) default
 rw[zbj,e7] at c7
 have ck2:zgm (zdk (H4.get (slB v.sv)) (slO v.sv + k * 3 + 2)) (v.uz.getD k default).rs.v=true:=by
  rw[c7]
  exact zen (s3.own (i:=(unT v.uns).length + k + 8) hgi).sl
 have s5':Hp H0 H5 (cel R (v.cells st) :: own v.pv st.sy.pts :: own v.gv st.sy.grs :: own v.qv st.sy.prs :: own v.wv st.sy.wins :: own v.uv v.uns :: own v.sv v.uz :: own v.ov st.once :: ((unT v.uns ++ (usT v.uz ++ (view wv ws :: L))).set ((unT v.uns).length + k) (own w2 ((v.uz.getD k default).rs.xs ++ [⟨n,zcc (z8 ws 2)⟩])))):=s5
 rw[z2m] at s5'
 have hsl:k < (usT v.uz ++ (view wv ws :: L)).length:=by
  rw[List.length_append,usT,List.length_map];omega
 have ow2:w2.isOne=true:=(s5'.own (i:=(unT v.uns).length + k + 8) (by
  show (unT v.uns ++ ((usT v.uz ++ (view wv ws :: L)).set k _))[(unT v.uns).length + k]? = _
  rw[zuh,List.getElem?_set_self hsl])).isOne
 have es:(usT v.uz ++ (view wv ws :: L)).set k (own w2 ((v.uz.getD k default).rs.xs ++ [⟨n,zcc (z8 ws 2)⟩]))=_:=zbp0 (⟨w2,(v.uz.getD k default).rs.xs ++ [(⟨n,zcc (z8 ws 2)⟩:Rl)],ow2⟩:In Rl) hkl
 rw[es] at s5'
 have ck3:zgm (zdk (H5.get R) 7) v.sv=true:=by rw[s5'.get (i:=0) rfl];exact zen hout1.sl
 (try simp(maxSteps:=1000000)(disch:=first|omega|(simp only[Z3];omega)|(simp;done)|assumption|decide|(apply not_not_intro;assumption))only[ZA,zp,zm,zi,zf,zg,zh,zd])
 refine zboh (α:=Us) (n:=3) (idx:=6) (i:=k) (off:=2) (x':=⟨(v.uz.getD k default).name,(v.uz.getD k default).key,⟨w2,(v.uz.getD k default).rs.xs ++ [⟨n,zcc (z8 ws 2)⟩],ow2⟩⟩) (d:=default) s5' rfl rfl hkl (by decide) ow2 rfl fun H6 s6=>?_
 have hlast:st.us.getD k default=(v.uz.getD k default).p:=by
  rw[← h.us]
  exact zqa _ _ _ _ _ hkl
 have r6:ReadAt H0 H6 R { v with uz:=v.uz.set k ⟨(v.uz.getD k default).name,(v.uz.getD k default).key,⟨w2,(v.uz.getD k default).rs.xs ++ [⟨n,zcc (z8 ws 2)⟩],ow2⟩⟩ } (addR st ⟨n,zcc (z8 ws 2)⟩) (view wv ws :: L):=by
  refine⟨s6,h.uns,?_⟩
  simp only[addR,hul,hk,Nat.add_sub_cancel,hlast,List.map_set,h.us]
  rfl
 (try simp(maxSteps:=1000000)(disch:=first|omega|(simp only[Z3];omega)|(simp;done)|assumption|decide|(apply not_not_intro;assumption))only[ZB,ck1,ck2,ck3])
 exact hok _ e _ _ r6
end Go.AM.Cap
