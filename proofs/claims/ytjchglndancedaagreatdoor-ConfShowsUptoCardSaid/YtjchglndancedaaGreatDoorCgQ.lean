import Derived.Test.YtjchglndancedaaGreatDoorCgP
import Derived.Test.YtjchglndancedaaGreatDoorAmIn
set_option linter.all false
/- conf (after PnR, points): the document's Check -/
set_option maxHeartbeats 8000000
namespace Go.AM.Cap
open Go.AM Go.Proofs
theorem zbux {α:Type} [Flat α] [Inhabited α] {H:Heap} {v:V} {l:List α} (h:Sl H v l) {n:Nat} (hs:Flat.size α=n) {i:Nat} (hi:i < l.length):zr n v (i64 i)=some (ptr (slB v) (slO v + i * n))∧(∀ {Q:V→Heap→Prop},wp (ldn n (ptr (slB v) (slO v + i * n))) Q H↔Q (.agg (Flat.enc (l.getD i default)).toArray) H):=by
 have q:=h.addr' hs (k := .i64) (i:=i) (by omega) (by omega)
 rw[Int.toNat_natCast] at q
 exact⟨q,fun {Q} => h.ldn' hs hi default⟩
def dupG (h g:Gr):Prop:=h=g∨(g.write=true∧h.write=true∧h.point=g.point)
instance (h g:Gr):Decidable (dupG h g):=by unfold dupG;exact inferInstance
def z7n (ls:List Pt):List Gr→List Gr→Int × Int
 | _,[]=>(0,0)
 | pre,g :: gs =>
  if ¬ (0≤g.part∧g.part < 8)∨g.point < 0∨g.point≥ls.length then ((pre.length:Int),1) else
  if g.write=true∧¬ (ptAt ls g.point).out=true then ((pre.length:Int),91) else
  if ∃ h∈pre,dupG h g then ((pre.length:Int),190) else
  z7n ls (pre ++ [g]) gs
theorem zbsu (ls:List Pt):∀ (gs pre:List Gr) (sn:List (Gr × Bool)) (wr:List (Int × Bool)),(∀ g,hasG sn g=true↔g∈pre)→(∀ p,hasI wr p=true↔∃ h∈pre,h.write=true∧h.point=p)→z7n ls pre gs=chkG ls pre.length sn wr gs
 | [],pre,sn,wr,h1,h2=>rfl
 | g :: gs,pre,sn,wr,h1,h2=>by
  rw[z7n,chkG]
  split
  ·rfl
  split
  ·rfl
  have e:(∃ h∈pre,dupG h g)↔(hasG sn g=true∨(g.write=true∧hasI wr g.point=true)):=by
   rw[h1,h2]
   unfold dupG
   constructor
   ·rintro⟨h,hm,rfl | ⟨q1,q2,q3⟩⟩
    ·exact .inl hm
    ·exact .inr ⟨q1,h,hm,q2,q3⟩
   ·rintro (hm | ⟨q1,h,hm,q2,q3⟩)
    ·exact⟨g,hm,.inl rfl⟩
    ·exact⟨h,hm,.inr ⟨q1,q2,q3⟩⟩
  by_cases c:∃ h∈pre,dupG h g
  ·rw[if_pos c,if_pos (e.1 c)]
  rw[if_neg c,if_neg (fun q=>c (e.2 q))]
  have:=zbsu ls gs (pre ++ [g]) (zif sn g true) (zif wr g.point (hasI wr g.point || g.write)) (fun g'=>?_) (fun p=>?_)
  ·rw[this,List.length_append];rfl
  ·unfold hasG
   rw[zbe9]
   by_cases q:g'=g
   ·subst q;simp
   ·rw[if_neg q]
    have:=h1 g'
    unfold hasG at this
    rw[this];simp[q]
  ·unfold hasI
   rw[zbe9]
   by_cases q:p=g.point
   ·subst q
    rw[if_pos rfl]
    simp only[Option.getD_some,Bool.or_eq_true,List.mem_append,List.mem_singleton]
    have:=h2 g.point
    unfold hasI at this
    rw[this]
    constructor
    ·rintro (⟨h,hm,q⟩ | q)
     ·exact⟨h,.inl hm,q⟩
     ·exact⟨g,.inr rfl,q,rfl⟩
    ·rintro⟨h,hm | rfl,q⟩
     ·exact .inl ⟨h,hm,q⟩
     ·exact .inr q.1
   ·rw[if_neg q]
    have:=h2 p
    unfold hasI at this
    rw[this]
    constructor
    ·rintro⟨h,hm,q⟩;exact⟨h,List.mem_append.2 (.inl hm),q⟩
    ·rintro⟨h,hm,q1,q2⟩
     rcases List.mem_append.1 hm with hm | hm
     ·exact⟨h,hm,q1,q2⟩
     ·simp only[List.mem_singleton] at hm;subst hm;exact absurd q2.symm q
theorem zb3y {ls:List Pt} {gs:List Gr} (h1:¬ ls.length > 64) (h2:¬ ∃ p∈ls,z33 p):chkB ls gs=z7n ls [] gs:=by
 unfold chkB
 rw[if_neg h1,if_neg h2]
 exact (zbsu ls gs [] [] [] (by simp[hasG,zjz]) (by simp[hasI,zjz])).symm
theorem eqGr (a b:Gr):zer false (zpt [.i,.i,.b] (.agg (Flat.enc a).toArray) (.agg (Flat.enc b).toArray))=some (.bool (decide (a=b))):=by
 have:=KeyE.eq a b
 rw[show KeyE.kk Gr = .agg [.i,.i,.b] from rfl] at this
 have e:zpt [.i,.i,.b] (.agg (Flat.enc a).toArray) (.agg (Flat.enc b).toArray)=some (decide (a=b)):=this
 rw[e]
 cases decide (a=b) <;> rfl
theorem zbx8 {H:Heap} {lv gv:V} {gs:List Gr} {g:Gr} {i x8:Nat} (hg:Sl H gv gs) (hi:i≤gs.length) (hx:H.get x8=some (.cells true [i64 g.part,i64 g.point,.bool g.write])) (hn:gs.length≤1048576)
  (Q:Out→Heap→Prop) (hQ:(¬ ∃ h∈gs.take i,dupG h g)→Q (.brk 4 [lv,gv,i64 i]) H) (hQ2:(∃ h∈gs.take i,dupG h g)→Q (.ret [i64 i,i64 190]) H) :
  wp (zba zbm zgc [lv,gv,i64 i,ptr x8 0,i64 0]) Q H:=by
 refine zd6 (Inv:=fun k vs H'=>∃ (j:Nat),k=i - j∧j≤i∧vs=[lv,gv,i64 i,ptr x8 0,i64 j]∧H'=H∧¬ ∃ h∈gs.take j,dupG h g) (n:=i) (by unfold zbm;omega)
  ⟨0,by omega,by omega,rfl,rfl,by simp⟩ ?_
 rintro k vs H' ⟨j,hk,hj,rfl,he,hd⟩
 rw[he];clear he H'
 by_cases h:j < i
 case neg =>
  have:j=i:=by omega
  subst this
  (try simp (maxSteps:=999999) (disch:=try exact ZD) only[ZB,zgc])
  exact hQ hd
 obtain⟨q1,q2⟩:=zbux hg (n:=3) rfl (i:=j) (by omega)
 have c1:=hg.cell' (n:=3) rfl (i:=j) (off:=1) (by omega) (by omega) default
 have c2:=hg.cell' (n:=3) rfl (i:=j) (off:=2) (by omega) (by omega) default
 rw[zbd] at c1 c2
 have hmem:gs.getD j default∈gs.take i:=by
  rw[List.getD_eq_getElem?_getD,List.getElem?_eq_getElem (show j < gs.length by omega)]
  exact List.mem_take_iff_getElem.2 ⟨j,by omega,rfl⟩
 have hst:∀ h∈gs.take (j + 1),h∈gs.take j∨h=gs.getD j default:=fun h hm=>by
  rw[List.take_succ] at hm
  rcases List.mem_append.1 hm with q | q
  ·exact .inl q
  ·rw[List.getElem?_eq_getElem (show j < gs.length by omega)] at q
   rw[List.getD_eq_getElem?_getD,List.getElem?_eq_getElem (show j < gs.length by omega)]
   simp at q;exact .inr q
 generalize gs.getD j default=f at *
 have eg:(Value.agg #[i64 g.part,i64 g.point,.bool g.write]:V) = .agg (Flat.enc g).toArray:=rfl
 have l8:∀ {Q:V→Heap→Prop},wp (ldn 3 (ptr x8 0)) Q H↔Q (.agg (Flat.enc g).toArray) H:=fun {Q} => zbts hx (by simp)
 have c1':zes (H.get (slB gv)) (slO gv + j * 3 + 1)=some (i64 f.point):=c1
 have c2':zes (H.get (slB gv)) (slO gv + j * 3 + 2)=some (.bool f.write):=c2
 have next:¬ dupG f g→¬ ∃ h∈gs.take (j + 1),dupG h g:=fun q ⟨h,hm,hd'⟩=>by
  rcases hst h hm with e | e
  ·exact hd ⟨h,e,hd'⟩
  ·subst e;exact q hd'
 by_cases d1:f=g
 ·(try simp (maxSteps:=999999) (disch:=try exact ZD) only[ZA,zo,zn,zm,zk,zi,zj,zg,ze,zgc,zjg,q1,q2,l8,eqGr,decide_eq_true d1])
  exact hQ2 ⟨f,hmem,.inl d1⟩
 cases gw:g.write with
 | false =>
  rw[gw] at hx
  (try simp (maxSteps:=999999) (disch:=try exact ZD) only[ZA,zo,zn,zm,zk,zi,zj,zg,ze,zgc,zjg,q1,q2,l8,eqGr,decide_eq_false d1,hx,zrt])
  have nx:=next (by rintro (q | ⟨q,_⟩);exact d1 q;rw[gw] at q;cases q)
  refine⟨i - (j + 1),by omega,j + 1,rfl,by omega,rfl,?_⟩
  first | exact nx | exact⟨trivial,nx⟩ | exact⟨rfl,nx⟩
 | true =>
 rw[gw] at hx
 cases fw:f.write with
 | false =>
  rw[fw] at c2'
  (try simp (maxSteps:=999999) (disch:=try exact ZD) only[ZA,zo,zn,zm,zk,zi,zj,zg,ze,zgc,zjg,q1,q2,l8,eqGr,decide_eq_false d1,hx,c2',zrt])
  have nx:=next (by rintro (q | ⟨_,q,_⟩);exact d1 q;rw[fw] at q;cases q)
  refine⟨i - (j + 1),by omega,j + 1,rfl,by omega,rfl,?_⟩
  first | exact nx | exact⟨trivial,nx⟩ | exact⟨rfl,nx⟩
 | true =>
 rw[fw] at c2'
 by_cases d2:f.point=g.point
 ·(try simp (maxSteps:=999999) (disch:=try exact ZD) only[ZA,zo,zn,zm,zk,zi,zj,zg,ze,zgc,zjg,q1,q2,l8,eqGr,decide_eq_false d1,hx,c1',c2',decide_eq_true d2])
  exact hQ2 ⟨f,hmem,.inr ⟨gw,fw,d2⟩⟩
 ·(try simp (maxSteps:=999999) (disch:=try exact ZD) only[ZA,zo,zn,zm,zk,zi,zj,zg,ze,zgc,zjg,q1,q2,l8,eqGr,decide_eq_false d1,hx,c1',c2',decide_eq_false d2,zrt])
  have nx:=next (by rintro (q | ⟨_,_,q⟩);exact d1 q;exact d2 q)
  refine⟨i - (j + 1),by omega,j + 1,rfl,by omega,rfl,?_⟩
  first | exact nx | exact⟨trivial,nx⟩ | exact⟨rfl,nx⟩
theorem z7o {H:Heap} {lv gv:V} {ls:List Pt} {gs:List Gr} (hl:Sl H lv ls) (hg:Sl H gv gs) (hn:gs.length≤1048576) (Q:V→Heap→Prop) (hQ:∀ H',Keeps [] H H'→Q (.tuple #[i64 (chkB ls gs).1,i64 (chkB ls gs).2]) H'):wp (zk0 [lv,gv]) Q H:=by
 show wp (zti lv gv) Q H
 by_cases h64:(ls.length:Int) > 64
 ·(try simp (maxSteps:=999999) (disch:=try exact ZD) only[ZB,zti,hl.len])
  have:=hQ H (Keeps.refl _ _)
  rw[chkB,if_pos (by omega)] at this
  exact this
 have hll:=hl.len
 (try simp (maxSteps:=999999) (disch:=try exact ZD) only[ZB,zti,hll,z3k])
 refine zd6 (Inv:=fun k vs H'=>∃ (j:Nat),k=ls.length - j∧j≤ls.length∧vs=[lv,gv,i64 j]∧H'=H∧¬ ∃ p∈ls.take j,z33 p) (n:=ls.length) (by unfold zbm;omega)
  ⟨0,by omega,by omega,rfl,rfl,by simp⟩ ?_
 rintro k vs H' ⟨j,hk,hj,rfl,he,hd⟩
 rw[he];clear he H'
 by_cases h:j < ls.length
 ·obtain⟨q1,q2⟩:=zbux hl (n:=2) rfl h
  have c1:=hl.cell' (n:=2) rfl (off:=0) h (by omega) default
  rw[zbd,Nat.add_zero] at c1
  have hmem:ls.getD j default∈ls:=by
   rw[List.getD_eq_getElem?_getD,List.getElem?_eq_getElem h];exact List.getElem_mem _
  have hst:∀ p∈ls.take (j + 1),p∈ls.take j∨p=ls.getD j default:=fun p hm=>by
   rw[List.take_succ] at hm
   rcases List.mem_append.1 hm with q | q
   ·exact .inl q
   ·rw[List.getElem?_eq_getElem h] at q
    rw[List.getD_eq_getElem?_getD,List.getElem?_eq_getElem h]
    simp at q;exact .inr q
  generalize ls.getD j default=p at *
  have c1':zes (H.get (slB lv)) (slO lv + j * 2)=some (i64 p.typ):=c1
  have bad:z33 p→Q (.tuple #[i64 (-1),i64 40]) H:=fun hb=>by
   have:=hQ H (Keeps.refl _ _)
   rw[chkB,if_neg (by omega),if_pos ⟨p,hmem,hb⟩] at this
   exact this
  by_cases d1:p.typ < 1
  ·(try simp (maxSteps:=999999) (disch:=try exact ZD) only[ZB,zms,hll,zrs,q1,c1',decide_eq_true d1])
   exact bad (.inl d1)
  by_cases d2:p.typ > 3
  ·(try simp (maxSteps:=999999) (disch:=try exact ZD) only[ZB,zms,hll,zrs,q1,c1',decide_eq_false d1,decide_eq_true d2])
   exact bad (.inr d2)
  (try simp (maxSteps:=999999) (disch:=try exact ZD) only[ZB,zms,hll,zrs,q1,c1',decide_eq_false d1,decide_eq_false d2,z5y])
  have nx:¬ ∃ p∈ls.take (j + 1),z33 p:=fun ⟨h,hm,hb⟩=>by
   rcases hst h hm with e | e
   ·exact hd ⟨h,e,hb⟩
   ·subst e
    rcases hb with q | q
    ·exact d1 q
    ·exact d2 q
  refine⟨ls.length - (j + 1),by omega,j + 1,rfl,by omega,rfl,?_⟩
  first | exact nx | exact⟨trivial,nx⟩ | exact⟨rfl,nx⟩
 have hje:j=ls.length:=by omega
 subst hje
 rw[List.take_length] at hd
 have hc:=zb3y (gs:=gs) (by omega) hd
 rw[hc] at hQ
 have hgl:=hg.len
 (try simp (maxSteps:=999999) (disch:=try exact ZD) only[ZB,zms,hll,z3j])
 refine zd6 (Inv:=fun k vs H'=>∃ (i:Nat),k=gs.length - i∧i≤gs.length∧vs=[lv,gv,i64 i]∧Keeps [] H H'∧z7n ls (gs.take i) (gs.drop i)=z7n ls [] gs) (n:=gs.length) (by unfold zbm;omega)
  ⟨0,by omega,by omega,rfl,Keeps.refl _ _,rfl⟩ ?_
 rintro k vs H' ⟨i,hk,hi,rfl,kk,hi2⟩
 have hl':=hl.keep0 kk
 have hg':=hg.keep0 kk
 by_cases h:i < gs.length
 case neg =>
  have:i=gs.length:=by omega
  subst this
  rw[List.drop_length,z7n] at hi2
  (try simp (maxSteps:=999999) (disch:=try exact ZD) only[ZB,zuh,hgl,z3i])
  have q:=hQ H' kk
  rw[← hi2] at q
  exact q
 rw[zbaa gs i default h,z7n,List.length_take,Nat.min_eq_left hi] at hi2
 obtain⟨q1,q2⟩:=zbux hg' (n:=3) rfl h
 have htk:gs.take i ++ [gs.getD i default]=gs.take (i + 1):=by
  rw[List.take_succ,List.getElem?_eq_getElem h,List.getD_eq_getElem?_getD,List.getElem?_eq_getElem h];rfl
 generalize gs.getD i default=g at *
 (try simp (maxSteps:=999999) (disch:=try exact ZD) only[ZA,zo,zn,zm,zk,zi,zj,zg,ze,zuh,hgl,z50,q1,q2,zxm])
 have k2:=Keeps.push [] H' (some (.cells true [i64 g.part,i64 g.point,.bool g.write]))
 have hx:=Heap.get_push_self H' (some (.cells true [i64 g.part,i64 g.point,.bool g.write]))
 have hfin:=kk.trans k2 (fun _ _ h=>h)
 have hl2:=hl'.keep0 k2
 have hg2:=hg'.keep0 k2
 have hll2:=hl2.len
 generalize H'.push (some (.cells true [i64 g.part,i64 g.point,.bool g.write]))=H2 at *
 generalize H'.next=x8 at *
 by_cases c1:¬ (0≤g.part∧g.part < 8)∨g.point < 0∨g.point≥ls.length
 ·rw[if_pos c1] at hi2
  have q:=hQ _ hfin
  rw[← hi2] at q
  by_cases d1:g.part < 0
  ·(try simp (maxSteps:=999999) (disch:=try exact ZD) only[ZB,hx,decide_eq_true d1])
   exact q
  by_cases d2:g.part≥8
  ·(try simp (maxSteps:=999999) (disch:=try exact ZD) only[ZB,hx,decide_eq_false d1,decide_eq_true d2])
   exact q
  by_cases d3:g.point < 0
  ·(try simp (maxSteps:=999999) (disch:=try exact ZD) only[ZB,hx,decide_eq_false d1,decide_eq_false d2,decide_eq_true d3])
   exact q
  ·have d4:g.point≥(ls.length:Int):=by omega
   (try simp (maxSteps:=999999) (disch:=try exact ZD) only[ZB,hx,hll2,decide_eq_false d1,decide_eq_false d2,decide_eq_false d3,decide_eq_true d4])
   exact q
 rw[if_neg c1] at hi2
 have d1:¬ g.part < 0:=by omega
 have d2:¬ g.part≥8:=by omega
 have d3:¬ g.point < 0:=by omega
 have d4:¬ g.point≥(ls.length:Int):=by omega
 (try simp (maxSteps:=999999) (disch:=try exact ZD) only[ZB,hx,hll2,decide_eq_false d1,decide_eq_false d2,decide_eq_false d3,decide_eq_false d4,z5z])
 have hli:g.point.toNat < ls.length:=by omega
 have ha2:=hl2.addr' (n:=2) rfl (k := .i64) (i:=g.point) (by omega) (by omega)
 have hcell:zes (H2.get (slB lv)) (slO lv + g.point.toNat * 2 + 1)=some (.bool (ptAt ls g.point).out):=by
  rw[← zbd,hl2.cell' (n:=2) rfl hli (by decide:1 < 2) default];rfl
 have rest:¬ (g.write=true∧¬ (ptAt ls g.point).out=true)→∀ R:Out→Heap→Prop,(∀ vs' H',(∃ k',k' < k∧∃ (i:Nat),k'=gs.length - i∧i≤gs.length∧vs'=[lv,gv,i64 i]∧Keeps [] H H'∧z7n ls (gs.take i) (gs.drop i)=z7n ls [] gs)→R (.nxt vs') H') →
   (∀ H',Keeps [] H H'→z7n ls [] gs=((i:Int),190)→R (.ret [i64 i,i64 190]) H') →
   wp (zw2 [lv,gv,i64 i,ptr x8 0]) (fun b H'=>wp (nx (zv 3 b) zw3) R H') H2:=fun c2 R hR hR2=>by
  rw[if_neg c2] at hi2
  (try simp (maxSteps:=999999) (disch:=try exact ZD) only[ZB,zw2])
  refine zbx8 hg2 hi hx (by omega) _ (fun hd=>?_) (fun hd=>?_)
  ·rw[if_neg hd,htk] at hi2
   (try simp (maxSteps:=999999) (disch:=try exact ZD) only[ZB,zw3])
   exact hR _ _ ⟨gs.length - (i + 1),by omega,i + 1,rfl,by omega,rfl,hfin,hi2⟩
  ·rw[if_pos hd] at hi2
   (try simp (maxSteps:=999999) (disch:=try exact ZD) only[ZB])
   exact hR2 _ hfin hi2.symm
 cases gw:g.write with
 | false =>
  rw[gw] at hx
  (try simp (maxSteps:=999999) (disch:=try exact ZD) only[ZB,hx])
  refine rest (by rw[gw];rintro⟨q,_⟩;cases q) _ (fun _ _ h=>h) (fun H3 k3 e=>?_)
  have q:=hQ _ k3
  rw[e] at q
  (try simp (maxSteps:=999999) (disch:=try exact ZD) only[ZB])
  exact q
 | true =>
  rw[gw] at hx
  cases ow:(ptAt ls g.point).out with
  | false =>
   rw[ow] at hcell
   rw[if_pos ⟨gw,by rw[ow];decide⟩] at hi2
   have q:=hQ _ hfin
   rw[← hi2] at q
   (try simp (maxSteps:=999999) (disch:=try exact ZD) only[ZB,hx,ha2,hcell])
   exact q
  | true =>
   rw[ow] at hcell
   (try simp (maxSteps:=999999) (disch:=try exact ZD) only[ZB,hx,ha2,hcell])
   refine rest (by rw[ow];rintro⟨_,q⟩;exact q rfl) _ (fun _ _ h=>h) (fun H3 k3 e=>?_)
   have q:=hQ _ k3
   rw[e] at q
   (try simp (maxSteps:=999999) (disch:=try exact ZD) only[ZB])
   exact q
end Go.AM.Cap
