import Derived.Test.YtjchglndancedaaGreatDoorRoB
import Derived.Test.YtjchglndancedaaGreatDoorAmIn
set_option linter.all false
/- roles: Check -/
set_option maxHeartbeats 8000000
namespace Go.AM.Cap
open Go.AM Go.Proofs
theorem zbz0 {H:Heap} {v:V} {l:List Int} (h:Sl H v l) (hl:l.length≤1000000000) (n:Int) (Q:V→Heap→Prop) (hQ:Q (i64 (zkt (zhf (fun x=>decide (n=x)) l))) H):wp (zf3 [v,i64 n]) Q H:=by
 show wp (ziu v (i64 n)) Q H
 have hlen:=h.len
 (try simp (maxSteps:=999999) (disch:=try exact ZD) only[ZB,ziu,hlen])
 refine zd6 (Inv:=fun k vs H'=>∃ j:Nat,k=l.length - j∧j≤l.length∧vs=[v,i64 n,i64 l.length,i64 j]∧H'=H∧(∀ i,i < j→decide (n=l.getD i 0)=false)) (n:=l.length) (by unfold zbm;omega)
  ⟨0,by omega,by omega,rfl,rfl,by omega⟩ ?_
 rintro k vs H1 ⟨j,hk,hj,rfl,he,hn⟩
 rw[he];clear he H1
 by_cases hlt:j < l.length
 case neg =>
  have:j=l.length:=by omega
  subst this
  have e:zkt (zhf (fun x=>decide (n=x)) l) = -1:=by rw[zbd1 (d:=0) hn];rfl
  rw[e] at hQ
  (try simp (maxSteps:=999999) (disch:=try exact ZD) only[ZB,zfg,zn3])
  exact hQ
 have a1:=h.addr1 rfl (k := .i64) (i:=j) (by omega) (by omega)
 rw[Int.toNat_natCast] at a1
 have c1:=h.cell1 rfl hlt 0
 rw[zbd] at c1
 have e1:(Flat.enc (l.getD j 0))[0]? = some (i64 (l.getD j 0)):=rfl
 rw[e1] at c1
 by_cases hq:n=l.getD j 0
 ·have e:zkt (zhf (fun x=>decide (n=x)) l)=j:=by rw[zvt (d:=0) hlt (decide_eq_true hq) hn];rfl
  rw[e] at hQ
  generalize l.getD j 0=y at *
  (try simp (maxSteps:=999999) (disch:=try exact ZD) only[ZB,zfg,zib,a1,c1])
  exact hQ
 ·generalize hy:l.getD j 0=y at *
  (try simp (maxSteps:=999999) (disch:=try exact ZD) only[ZB,zfg,zib,a1,c1,zn2])
  refine⟨l.length - (j + 1),by omega,j + 1,rfl,by omega,by push_cast;rfl,fun i hi=>?_⟩
  rcases Nat.lt_or_eq_of_le (Nat.lt_succ_iff.1 hi) with q | rfl
  ·exact hn i q
  ·rw[hy];exact decide_eq_false hq
theorem zbor {H:Heap} {v:V} {l:List Int} (h:Sl H v l) (hl:l.length≤1000000000) (n:Int) (Q:V→Heap→Prop) (hQ:Q (.bool (decide (n∈l))) H):wp (zem [v,i64 n]) Q H:=by
 show wp (zg2 v (i64 n)) Q H
 unfold zg2
 rw[z7,z7]
 refine zbz0 h hl n _ ?_
 cases hf:zhf (fun x=>decide (n=x)) l with
 | none =>
  have:¬ n∈l:=fun q=>by have:=zs2.1 hf n q;simp at this
  rw[decide_eq_false this] at hQ
  have e:decide (((-1:Int))≥0)=false:=by decide
  (try simp (maxSteps:=999999) (disch:=try exact ZD) only[ZB,zkt,e])
  exact hQ
 | some i =>
  obtain⟨hi,hp,_⟩:=z73 (d:=0) hf
  have:n∈l:=by
   have e:n=l.getD i 0:=by simpa using hp
   rw[e];exact zbh hi
  rw[decide_eq_true this] at hQ
  have e:decide ((i:Int)≥0)=true:=by simp
  (try simp (maxSteps:=999999) (disch:=try exact ZD) only[ZB,zkt,e])
  exact hQ
def zvn (parts:Int) (r:Rl):Bool:=decide (r.part < 0∨r.part≥parts∨r.level < 1∨r.level > 4)
def zok (rs:List Rl) (parts:Int):Int:=if rs.any (zvn parts) then 1 else if (rs.map (·.part)).Nodup then 0 else 240
theorem zbjs {l:List Int} {a:Int}:(l ++ [a]).Nodup↔l.Nodup∧a ∉ l:=by
 rw[List.nodup_append]
 constructor
 ·rintro⟨h1,_,h3⟩
  exact⟨h1,fun q=>h3 a q a (by simp) rfl⟩
 ·rintro⟨h1,h2⟩
  exact⟨h1,by simp,fun x hx y hy e=>by simp at hy;subst hy;subst e;exact h2 hx⟩
theorem zbz1 {H:Heap} (u:Us) (h:Sl H u.rs.v u.rs.xs) (hl:u.rs.xs.length≤1048576) (parts:Int) (Q:V→Heap→Prop) (hQ:∀ H',Keeps [] H H'→Q (i64 (zok u.rs.xs parts)) H'):wp (ztg [.agg (Flat.enc u).toArray,i64 parts]) Q H:=by
 show wp (zzt (.agg (Flat.enc u).toArray) (i64 parts)) Q H
 have ho:=zbbm u
 have k1:Keeps [] H (H.push (some (.cells true [.string u.name,.string u.key,u.rs.v]))):=Keeps.push _ _ _
 have g1:(H.push (some (.cells true [.string u.name,.string u.key,u.rs.v]))).get H.next=some (.cells true [.string u.name,.string u.key,u.rs.v]):=Heap.get_push_self _ _
 unfold zzt
 rw[z7,z7,z7d]
 refine (zb0 ho).mpr ?_
 generalize (H.push (some (.cells true [.string u.name,.string u.key,u.rs.v])))=H1 at *
 have hlen:=h.len
 generalize hrs:u.rs.xs=rs at *
 (try simp (maxSteps:=999999) (disch:=try exact ZD) only[ZB,g1,hlen])
 refine zd6 (Inv:=fun k vs H'=>∃ (j:Nat) (w:V),k=rs.length - j∧j≤rs.length∧vs=[i64 parts,w,.bool (decide (¬ ((rs.take j).map (·.part)).Nodup)),u.rs.v,i64 rs.length,i64 j]∧zh7 H' w ((rs.take j).map (·.part))∧Keeps [] H H'∧(∀ x∈vb w,H.next≤x)∧(∀ i,i < j→zvn parts (rs.getD i default)=false)) (n:=rs.length) (by unfold zbm;omega)
  ⟨0,_,by omega,by omega,by simp,zh7.nil _,k1,by simp,by omega⟩ ?_
 rintro k vs H2 ⟨j,w,hk,hj,rfl,ow,hk2,hv,hn⟩
 by_cases hlt:j < rs.length
 case neg =>
  have:j=rs.length:=by omega
  subst this
  rw[List.take_length] at ow ⊢
  have hany:rs.any (zvn parts)=false:=by
   rw[List.any_eq_false]
   intro x hx
   obtain⟨i,hi,rfl⟩:=List.getElem_of_mem hx
   have:=hn i hi
   rw[List.getD_eq_getElem?_getD,List.getElem?_eq_getElem hi] at this
   simpa using this
  have hq:=hQ H2 hk2
  unfold zok at hq
  rw[hany,if_neg (by simp)] at hq
  by_cases hnd:(rs.map (·.part)).Nodup
  ·rw[if_pos hnd] at hq
   have e:decide (¬ (rs.map (·.part)).Nodup)=false:=by simp[hnd]
   (try simp (maxSteps:=999999) (disch:=try exact ZD) only[ZB,zre,e,zwy,z5o])
   exact hq
  ·rw[if_neg hnd] at hq
   have e:decide (¬ (rs.map (·.part)).Nodup)=true:=by simp[hnd]
   (try simp (maxSteps:=999999) (disch:=try exact ZD) only[ZB,zre,e,zwy])
   exact hq
 have hs:=h.keep0 hk2
 have a1:=hs.addr' (n:=2) rfl (k := .i64) (i:=j) (by omega) (by omega)
 rw[Int.toNat_natCast] at a1
 have d1:=fun Q=>hs.ldn' (Q:=Q) (n:=2) rfl hlt default
 have hst:(rs.take (j + 1)).map (·.part)=(rs.take j).map (·.part) ++ [(rs.getD j default).part]:=by
  rw[List.take_succ,List.getElem?_eq_getElem hlt,List.map_append,List.getD_eq_getElem?_getD,List.getElem?_eq_getElem hlt];rfl
 have hmem:=zbh (d:=default) hlt
 generalize hr:rs.getD j default=r at *
 generalize hsn:(rs.take j).map (·.part)=seen at *
 have hseen:seen.length≤1048576:=by rw[← hsn,List.length_map,List.length_take];omega
 have k3:Keeps [] H2 (H2.push (some (.cells true [i64 r.part,i64 r.level]))):=Keeps.push _ _ _
 have g3:(H2.push (some (.cells true [i64 r.part,i64 r.level]))).get H2.next=some (.cells true [i64 r.part,i64 r.level]):=Heap.get_push_self _ _
 have ow3:=ow.keep0 k3
 (try simp (maxSteps:=999999) (disch:=try exact ZD) only[ZA,zo,zn,zm,zk,zi,zj,zg,ze,zre,z5n,a1,d1,zbbl])
 by_cases hbad:zvn parts r=true
 ·have hany:rs.any (zvn parts)=true:=List.any_eq_true.2 ⟨r,hmem,hbad⟩
  have hq:=hQ _ (hk2.trans k3 (by simp))
  unfold zok at hq
  rw[if_pos hany] at hq
  simp only[zvn,decide_eq_true_eq] at hbad
  by_cases b1:r.part < 0
  ·(try simp (maxSteps:=999999) (disch:=try exact ZD) only[ZB]);exact hq
  by_cases b2:r.part≥parts
  ·(try simp (maxSteps:=999999) (disch:=try exact ZD) only[ZB]);exact hq
  by_cases b3:r.level < 1
  ·(try simp (maxSteps:=999999) (disch:=try exact ZD) only[ZB]);exact hq
  have b4:r.level > 4:=by omega
  (try simp (maxSteps:=999999) (disch:=try exact ZD) only[ZB])
  exact hq
 ·have hbad':zvn parts r=false:=by simpa using hbad
  simp only[zvn,decide_eq_true_eq] at hbad
  have b1:¬ r.part < 0:=fun q=>hbad (.inl q)
  have b2:¬ r.part≥parts:=fun q=>hbad (.inr (.inl q))
  have b3:¬ r.level < 1:=fun q=>hbad (.inr (.inr (.inl q)))
  have b4:¬ r.level > 4:=fun q=>hbad (.inr (.inr (.inr q)))
  (try simp (maxSteps:=999999) (disch:=try exact ZD) only[ZB,z5m])
  generalize H2.push (some (.cells true [i64 r.part,i64 r.level]))=H3 at *
  have rest:∀ (t:Bool),t=decide (¬ (seen ++ [r.part]).Nodup)→wp (zcc 1 1 (rep 1 [Value.int .i64 0]) [(0,1,i64 r.part)]) (fun x H'=>wp (zd0 1 8 w x) (fun y H'=>∃ k',k' < k∧∃ (j':Nat) (w':V),k'=rs.length - j'∧j'≤rs.length∧[i64 parts,y,.bool t,u.rs.v,i64 rs.length,i64 ((j:Int) + 1)]=[i64 parts,w',.bool (decide (¬ ((rs.take j').map (·.part)).Nodup)),u.rs.v,i64 rs.length,i64 j']∧zh7 H' w' ((rs.take j').map (·.part))∧Keeps [] H H'∧(∀ x∈vb w',H.next≤x)∧(∀ i,i < j'→zvn parts (rs.getD i default)=false)) H') H3:=fun t ht=>by
   refine zbmp (α:=Int) (ys:=[r.part]) rfl ow3 (by rfl) (by rfl) rfl (by omega) (by omega) fun y H4 o4 k4 v4=>?_
   refine⟨rs.length - (j + 1),by omega,j + 1,y,rfl,by omega,?_,?_,?_,?_,?_⟩
   ·rw[hst,ht];push_cast;rfl
   ·rw[hst];exact o4
   ·exact (hk2.trans k3 (by simp)).trans k4 fun c hc hm=>by have:=hv c hm;omega
   ·intro c hc
    rcases v4 c hc with q | q
    ·exact hv c q
    ·have:=hk2.next;have:=k3.next;omega
   ·intro i hi
    rcases Nat.lt_or_eq_of_le (Nat.lt_succ_iff.1 hi) with q | rfl
    ·exact hn i q
    ·rw[hr];exact hbad'
  by_cases hnd:seen.Nodup
  ·have e:decide (¬ seen.Nodup)=false:=by simp[hnd]
   (try simp (maxSteps:=999999) (disch:=try exact ZD) only[ZB,e,g3])
   refine zbor ow3.sl (by omega) r.part _ ?_
   (try simp (maxSteps:=999999) (disch:=try exact ZD) only[ZB,g3,zwx])
   refine zbci (rest (decide (r.part∈seen)) ?_) fun x H' hx=>hx
   simp[zbjs,hnd]
  ·have e:decide (¬ seen.Nodup)=true:=by simp[hnd]
   (try simp (maxSteps:=999999) (disch:=try exact ZD) only[ZB,e,g3,zwx])
   refine zbci (rest true ?_) fun x H' hx=>hx
   simp[zbjs,hnd]
def letters:ByteArray:=⟨#[97,98,99,100,101,102,103,104,105,106,107,108,109,110,111,112,113,114,115,116,117,118,119,120,121,122,48,49,50,51,52,53,54,55,56,57]⟩
def zm2 (n:ByteArray):Bool:=decide (n≠⟨#[]⟩∧n.size≤24) && (bv n).all (inS (bv letters))
def ze3 (u:Us):Bool:=zm2 u.name && decide (16≤u.key.size∧u.key.size≤64)
theorem zbls:∀ b∈bv letters,b.toNat < 128:=by decide +kernel
theorem zbxl {H:Heap} {G:List V→M V} (u:Us) (Q:V→Heap→Prop) (hQ:∀ H',Keeps [] H H'→Q (.bool (ze3 u)) H'):wp (zrc G [.agg (Flat.enc u).toArray]) Q H:=by
 show wp (zwv G (.agg (Flat.enc u).toArray)) Q H
 have ho:=zbbm u
 have k1:Keeps [] H (H.push (some (.cells true [.string u.name,.string u.key,u.rs.v]))):=Keeps.push _ _ _
 have g1:(H.push (some (.cells true [.string u.name,.string u.key,u.rs.v]))).get H.next=some (.cells true [.string u.name,.string u.key,u.rs.v]):=Heap.get_push_self _ _
 unfold zwv
 rw[z7,z7,z7d]
 refine (zb0 ho).mpr ?_
 generalize (H.push (some (.cells true [.string u.name,.string u.key,u.rs.v])))=H1 at *
 by_cases h1:u.name=⟨#[]⟩
 ·have e:ze3 u=false:=by simp[ze3,zm2,h1]
  rw[e] at hQ
  (try simp (maxSteps:=999999) (disch:=try exact ZD) only[ZB,g1,h1])
  exact hQ _ k1
 by_cases h2:(u.name.size:Int)≤24
 case neg =>
  have h2':¬ u.name.size≤24:=by omega
  have e:ze3 u=false:=by simp[ze3,zm2,h2']
  rw[e] at hQ
  (try simp (maxSteps:=999999) (disch:=try exact ZD) only[ZB,g1])
  exact hQ _ k1
 have h2':u.name.size≤24:=by omega
 have hl:(⟨#[97,98,99,100,101,102,103,104,105,106,107,108,109,110,111,112,113,114,115,116,117,118,119,120,121,122,48,49,50,51,52,53,54,55,56,57]⟩:ByteArray)=letters:=rfl
 rw[hl]
 (try simp (maxSteps:=999999) (disch:=try exact ZD) only[ZB,g1])
 refine zboq u.name letters (by omega) zbls (by decide) (by decide) _ fun H2 k2=>?_
 have g2:=k2.get g1 (by simp)
 have k02:Keeps [] H H2:=k1.trans k2 (by simp)
 have hq:=hQ H2 k02
 have hiff:(sv (zt6 (bv letters) (zr3 (bv letters) (bv u.name)))=⟨#[]⟩)↔(bv u.name).all (inS (bv letters))=true:=by
  rw[← zb5i,z4l,zbjr,List.all_eq_true]
 by_cases h3:(bv u.name).all (inS (bv letters))=true
 case neg =>
  have h3':¬ (sv (zt6 (bv letters) (zr3 (bv letters) (bv u.name)))=⟨#[]⟩):=fun q=>h3 (hiff.1 q)
  have e:ze3 u=false:=by simp only[ze3,zm2];simp[h3]
  rw[e] at hq
  (try simp (maxSteps:=999999) (disch:=try exact ZD) only[ZB,g2])
  exact hq
 have h3':=hiff.2 h3
 by_cases h4:(u.key.size:Int)≥16
 case neg =>
  have h4':¬ 16≤u.key.size:=by omega
  have e:ze3 u=false:=by simp[ze3,h4']
  rw[e] at hq
  (try simp (maxSteps:=999999) (disch:=try exact ZD) only[ZB,g2])
  exact hq
 have h4':16≤u.key.size:=by omega
 by_cases h5:(u.key.size:Int)≤64
 ·have h5':u.key.size≤64:=by omega
  have e:ze3 u=true:=by simp only[ze3,zm2,h3];simp[h1,h2',h4',h5']
  rw[e] at hq
  (try simp (maxSteps:=999999) (disch:=try exact ZD) only[ZB,g2])
  rw[decide_eq_true h5]
  exact hq
 ·have h5':¬ u.key.size≤64:=by omega
  have e:ze3 u=false:=by simp[ze3,h5']
  rw[e] at hq
  (try simp (maxSteps:=999999) (disch:=try exact ZD) only[ZB,g2])
  rw[decide_eq_false h5]
  exact hq
def zen (parts:Int):List Us→List Us→Int × Int
 | _,[]=>(0,0)
 | ah,u :: r=>if ze3 u then (if (zyt ah u.name).isSome then (ah.length,6) else if zok u.rs.xs parts=0 then zen parts (ah ++ [u]) r else (ah.length,zok u.rs.xs parts)) else (ah.length,3)
def zik (l:List Us) (parts:Int):Int × Int :=
 if parts < 1∨parts > 8 then (-1,1) else if l.length > 8 then (-1,2) else zen parts [] l
theorem zbz2 {H:Heap} {G:List V→M V} {v:V} {l:List Us} (h:Users H v l) (parts:Int) (Q:V→Heap→Prop) (hQ:∀ H',Keeps [] H H'→Q (.tuple #[i64 (zik l parts).1,i64 (zik l parts).2]) H'):wp (zth G [v,i64 parts]) Q H:=by
 show wp (zkz G v (i64 parts)) Q H
 have hlen:=h.out.len
 by_cases h1:parts < 1
 ·have e:zik l parts=(-1,1):=by unfold zik;rw[if_pos (.inl h1)]
  rw[e] at hQ
  (try simp (maxSteps:=999999) (disch:=try exact ZD) only[ZB,zkz])
  exact hQ _ (Keeps.refl _ _)
 by_cases h2:parts > 8
 ·have e:zik l parts=(-1,1):=by unfold zik;rw[if_pos (.inr h2)]
  rw[e] at hQ
  (try simp (maxSteps:=999999) (disch:=try exact ZD) only[ZB,zkz])
  exact hQ _ (Keeps.refl _ _)
 by_cases h3:l.length > 8
 ·have e:zik l parts=(-1,2):=by unfold zik;rw[if_neg (by omega),if_pos h3]
  rw[e] at hQ
  have h3':(l.length:Int) > 8:=by omega
  (try simp (maxSteps:=999999) (disch:=try exact ZD) only[ZB,zkz,hlen])
  exact hQ _ (Keeps.refl _ _)
 have h3':¬ ((l.length:Int) > 8):=by omega
 have e:zik l parts=zen parts [] l:=by unfold zik;rw[if_neg (by omega),if_neg h3]
 rw[e] at hQ
 (try simp (maxSteps:=999999) (disch:=try exact ZD) only[ZB,zkz,hlen,z5u])
 refine zd6 (Inv:=fun k vs H'=>∃ j:Nat,k=l.length - j∧j≤l.length∧vs=[v,i64 parts,v,i64 l.length,i64 j]∧Keeps [] H H'∧zen parts [] l=zen parts (l.take j) (l.drop j)) (n:=l.length) (by unfold zbm;omega)
  ⟨0,by omega,by omega,rfl,Keeps.refl _ _,by simp⟩ ?_
 rintro k vs H1 ⟨j,hk,hj,rfl,hk1,hgo⟩
 by_cases hlt:j < l.length
 case neg =>
  have:j=l.length:=by omega
  subst this
  rw[List.drop_length] at hgo
  have e:zen parts [] l=(0,0):=hgo
  rw[e] at hQ
  (try simp (maxSteps:=999999) (disch:=try exact ZD) only[ZB,zwz,z5t])
  exact hQ _ hk1
 have hu:=h.keep0 hk1
 have a1:=hu.out.addr' (n:=3) rfl (k := .i64) (i:=j) (by omega) (by omega)
 rw[Int.toNat_natCast] at a1
 have d1:=fun Q=>hu.out.ldn' (Q:=Q) (n:=3) rfl hlt default
 obtain⟨hin,hinl⟩:=hu.at hlt
 have hdrop:l.drop j=l.getD j default :: l.drop (j + 1):=by
  rw[List.getD_eq_getElem?_getD,List.getElem?_eq_getElem hlt];exact List.drop_eq_getElem_cons hlt
 have htake:l.take (j + 1)=l.take j ++ [l.getD j default]:=by
  rw[List.take_succ,List.getElem?_eq_getElem hlt,List.getD_eq_getElem?_getD,List.getElem?_eq_getElem hlt];rfl
 rw[hdrop] at hgo
 have htl:(l.take j).length=j:=by rw[List.length_take];omega
 have hsl:zh6 3 v none (some (i64 (j:Int)))=some (.slice none 0 0)∨∃ w,zh6 3 v none (some (i64 (j:Int)))=some w∧Sl H1 w (l.take j):=by
  rcases hu.out with⟨rfl,rfl⟩ | ⟨b,o,u',c,rfl,hc,hb,hl2,hu2⟩
  ·simp at hlt
  ·right
   have e1:zd1 l.length c (some (i64 (j:Int)))=some j:=by simp[zd1];omega
   have hu3:u'=3∨u'=0:=hu2.symm
   refine⟨slc b o u' j c,?_,.inr ⟨b,o,u',c,by rw[htl],by omega,hb,?_,hu2⟩⟩
   ·have hb0:zd1 0 j none=some 0:=rfl
    simp only[zh6,e1,hb0]
    rw[if_pos hu3]
    simp[zts]
   ·rcases hl2 with rfl | ⟨rw_,cs,hg,q1,q2⟩
    ·simp at hlt
    ·refine .inr ⟨rw_,cs,hg,?_,?_⟩
     ·rw[htl];have:j * Flat.size Us≤l.length * Flat.size Us:=Nat.mul_le_mul_right _ (by omega);omega
     ·rw[htl]
      have:(cs.drop o).take (j * Flat.size Us)=((cs.drop o).take (l.length * Flat.size Us)).take (j * Flat.size Us):=by
       rw[List.take_take,Nat.min_eq_left (Nat.mul_le_mul_right _ (by omega))]
      rw[this,q2,zbe0]
 have hsl':∃ w,zh6 3 v none (some (i64 (j:Int)))=some w∧Sl H1 w (l.take j):=by
  rcases hsl with q | q
  ·exfalso
   rcases hu.out with⟨rfl,rfl⟩ | ⟨b,o,u',c,rfl,hc,hb,hl2,hu2⟩
   ·simp at hlt
   ·have e1:zd1 l.length c (some (i64 (j:Int)))=some j:=by simp[zd1];omega
    have hu3:u'=3∨u'=0:=hu2.symm
    have hb0:zd1 0 j none=some 0:=rfl
    simp only[zh6,e1,hb0] at q
    rw[if_pos hu3] at q
    simp only[zts] at q
    split at q <;> cases q
  ·exact q
 obtain⟨w,hsub,hw⟩:=hsl'
 generalize hx:l.getD j default=x at *
 have ho:=zbbm x
 have k3:Keeps [] H1 (H1.push (some (.cells true [.string x.name,.string x.key,x.rs.v]))):=Keeps.push _ _ _
 have g3:(H1.push (some (.cells true [.string x.name,.string x.key,x.rs.v]))).get H1.next=some (.cells true [.string x.name,.string x.key,x.rs.v]):=Heap.get_push_self _ _
 have n3:(H1.push (some (.cells true [.string x.name,.string x.key,x.rs.v]))).next=H1.next + 1:=by simp
 (try simp (maxSteps:=999999) (disch:=try exact ZD) only[ZA,zo,zn,zm,zk,zi,zj,zg,ze,zwz,z5s,a1,d1,z7d])
 generalize H1.push (some (.cells true [.string x.name,.string x.key,x.rs.v]))=H3 at *
 have hl3:([Value.string x.name,Value.string x.key,x.rs.v]:List V).length=3:=rfl
 have d3:=fun Q=>zbb (Q:=Q) g3 hl3
 rw[d3]
 refine zbxl x _ fun H4 k4=>?_
 have g4:=k4.get g3 (by simp)
 have k04:Keeps [] H H4:=(hk1.trans k3 (by simp)).trans k4 (by simp)
 cases hf:ze3 x with
 | false =>
  have e:zen parts [] l=((j:Int),3):=by rw[hgo];unfold zen;rw[if_neg (by simp[hf]),htl]
  rw[e] at hQ
  (try simp (maxSteps:=999999) (disch:=try exact ZD) only[ZB])
  exact hQ _ k04
 | true =>
  (try simp (maxSteps:=999999) (disch:=try exact ZD) only[ZB,z5q,hsub,g4])
  refine zb2q ((hw.keep0 k3).keep0 k4) (by rw[htl];omega) x.name _ fun H5 k5=>?_
  have g5:=k5.get g4 (by simp)
  have k05:Keeps [] H H5:=k04.trans k5 (by simp)
  cases hfd:zyt (l.take j) x.name with
  | some i =>
   have e:zen parts [] l=((j:Int),6):=by rw[hgo];unfold zen;rw[if_pos hf,if_pos (by simp[hfd]),htl]
   rw[e] at hQ
   (try simp (maxSteps:=999999) (disch:=try exact ZD) only[ZB])
   exact hQ _ k05
  | none =>
   have d5:=fun Q=>zbb (Q:=Q) g5 hl3
   have h90:¬ ((90:Int)=0):=by decide
   (try simp (maxSteps:=999999) (disch:=try exact ZD) only[ZA,zo,zn,zm,zk,zi,zj,zg,ze,z5p,d5])
   refine zbz1 x (((hin.keep0 k3).keep0 k4).keep0 k5) hinl parts _ fun H6 k6=>?_
   have k06:Keeps [] H H6:=k05.trans k6 (by simp)
   by_cases hwr:zok x.rs.xs parts=0
   ·rw[hwr]
    (try simp (maxSteps:=999999) (disch:=try exact ZD) only[ZB,z5r])
    refine⟨l.length - (j + 1),by omega,j + 1,rfl,by omega,by push_cast;rfl,k06,?_⟩
    rw[hgo,htake]
    conv=>lhs;unfold zen
    rw[if_pos hf,if_neg (by simp[hfd]),if_pos hwr]
   ·have e:zen parts [] l=((j:Int),zok x.rs.xs parts):=by rw[hgo];unfold zen;rw[if_pos hf,if_neg (by simp[hfd]),if_neg hwr,htl]
    rw[e] at hQ
    (try simp (maxSteps:=999999) (disch:=try exact ZD) only[ZB])
    exact hQ _ k06
end Go.AM.Cap
