import Derived.Test.YtjchglndancedaaGreatDoorFun2
import Derived.Test.YtjchglndancedaaGreatDoorAmIn
set_option linter.all false
/- num: which values fit -/
namespace Go.AM.Cap
open Go.AM Go.Proofs
def fits (t n:Int):Prop:=(t=1∧(n=0∨n=1))∨(t=2 ∧ -32768≤n∧n≤32767)∨((t=3∨t=4) ∧ -2147483648≤n∧n≤2147483647)
instance (t n:Int):Decidable (fits t n):=by unfold fits;exact inferInstance
end Go.AM.Cap

/- points: the things; Check -/
set_option maxHeartbeats 8000000
namespace Go.AM.Cap
open Go.AM Go.Proofs
structure Pt where
 typ:Int
 out:Bool
 deriving DecidableEq,Inhabited
def Pt.cells (p:Pt):List V:=[i64 p.typ,.bool p.out]
instance:Flat Pt:=⟨2,Pt.cells,fun _=>rfl,fun _=>rfl,by decide⟩
theorem zbua (p:Pt):Flat.enc p=[i64 p.typ,.bool p.out]:=rfl
abbrev Pt.agg (p:Pt):V := .agg [i64 p.typ,.bool p.out].toArray
structure Gr where
 part:Int
 point:Int
 write:Bool
 deriving DecidableEq,Inhabited
def Gr.cells (p:Gr):List V:=[i64 p.part,i64 p.point,.bool p.write]
instance:Flat Gr:=⟨3,Gr.cells,fun _=>rfl,fun _=>rfl,by decide⟩
theorem zxm (p:Gr):Flat.enc p=[i64 p.part,i64 p.point,.bool p.write]:=rfl
abbrev Gr.agg (p:Gr):V := .agg [i64 p.part,i64 p.point,.bool p.write].toArray
instance:KeyE Gr:=⟨.agg [.i,.i,.b],Gr.agg,fun a b=>by
 simp only[zvv,zpt,zqk,eqK,if_true,zbhc]
 obtain⟨a1,a2,a3⟩:=a
 obtain⟨b1,b2,b3⟩:=b
 by_cases h:a1=b1
 ·by_cases h2:a2=b2
  ·by_cases h3:a3=b3
   ·subst h;subst h2;subst h3;simp
   ·rw[decide_eq_true h,decide_eq_true h2,decide_eq_false (show ¬ Gr.mk a1 a2 a3=Gr.mk b1 b2 b3 by simp[h3])]
    have:(a3 == b3)=false:=by simpa using h3
    rw[this]
  ·rw[decide_eq_true h,decide_eq_false h2,decide_eq_false (show ¬ Gr.mk a1 a2 a3=Gr.mk b1 b2 b3 by simp[h2])]
 ·rw[decide_eq_false h,decide_eq_false (show ¬ Gr.mk a1 a2 a3=Gr.mk b1 b2 b3 by simp[h])],fun _=>rfl,fun _=>rfl⟩
theorem lkGB (rw_:Bool) (es:List (Gr × Bool)) (a b:Int) (c:Bool):zyd (some (.map rw_ (es.map zlm))) (.agg [.i,.i,.b]) (.bool false) false (.agg [i64 a,i64 b,.bool c].toArray)=some (.bool ((zjz es ⟨a,b,c⟩).getD false)):=by
 have:=z70 rw_ es (.bool false) rfl ⟨a,b,c⟩
 rw[show KeyE.kk Gr = .agg [.i,.i,.b] from rfl,show (KeyE.enc (⟨a,b,c⟩:Gr):V) = .agg [i64 a,i64 b,.bool c].toArray from rfl] at this
 rw[this]
 cases zjz es ⟨a,b,c⟩ <;> rfl
theorem lkIB (rw_:Bool) (es:List (Int × Bool)) (a:Int):zyd (some (.map rw_ (es.map zlm))) (.one .i) (.bool false) false (i64 a)=some (.bool ((zjz es a).getD false)):=by
 have:=z70 rw_ es (.bool false) rfl a
 rw[show KeyE.kk Int = .one .i from rfl,show (KeyE.enc a:V)=i64 a from rfl] at this
 rw[this]
 cases zjz es a <;> rfl
theorem lkPB (rw_:Bool) (es:List ((Int × Int) × Bool)) (a b:Int):zyd (some (.map rw_ (es.map zlm))) (.agg [.i,.i]) (.bool false) false (.agg [i64 a,i64 b].toArray)=some (.bool ((zjz es (a,b)).getD false)):=by
 have:=z70 rw_ es (.bool false) rfl (a,b)
 rw[show KeyE.kk (Int × Int) = .agg [.i,.i] from rfl,show (KeyE.enc (a,b):V) = .agg [i64 a,i64 b].toArray from rfl] at this
 rw[this]
 cases zjz es (a,b) <;> rfl
theorem stGB (es:List (Gr × Bool)) (a b:Int) (c v:Bool) (K:Option Blk→Prop):setG (some (.map true (es.map zlm))) (.agg [.i,.i,.b]) (.agg [i64 a,i64 b,.bool c].toArray) (.bool v) K↔K (some (.map true ((zif es ⟨a,b,c⟩ v).map zlm))):=zbcn es (⟨a,b,c⟩:Gr) v K
theorem stIB (es:List (Int × Bool)) (a:Int) (v:Bool) (K:Option Blk→Prop):setG (some (.map true (es.map zlm))) (.one .i) (i64 a) (.bool v) K↔K (some (.map true ((zif es a v).map zlm))):=zbcn es a v K
theorem stPB (es:List ((Int × Int) × Bool)) (a b:Int) (v:Bool) (K:Option Blk→Prop):setG (some (.map true (es.map zlm))) (.agg [.i,.i]) (.agg [i64 a,i64 b].toArray) (.bool v) K↔K (some (.map true ((zif es (a,b) v).map zlm))):=zbcn es (a,b) v K
theorem zbg3 (x:Int):zq6 [i64 x]=ret (.bool (decide (0≤x∧x < 8))):=zbtx fun H=>by
 show wp (zwk (i64 x)) _ H
 (repeat' (first | (simp (maxSteps:=999999) (disch:=try exact ZD) only[ZB,zwk]) | (refine zkx (fun _=>?_) (fun _=>?_)) | (refine zpx (fun _=>?_) (fun _=>?_)) | (refine zm8 (fun _=>?_) (fun _=>?_)) | (refine zi6 (fun _=>?_) (fun _=>?_)) | (refine zsq (fun _=>?_) (fun _=>?_)) | (refine z0d (fun _=>?_) (fun _=>?_)) | (refine zvr (fun _=>?_) (fun _=>?_)) | (refine zpy (fun _=>?_) (fun _=>?_))))
 all_goals refine⟨?_,by trivial⟩
 all_goals ((try simp only[true_and,and_true,false_and,and_false,true_or,or_true,false_or,or_false]);(try ((repeat' split) <;> (first | rfl | omega | (refine congrArg (Value.int _) ?_;omega) | (refine congrArg Value.bool ?_;apply decide_eq_decide.mpr;omega) | (refine congrArg Value.bool ?_;exact (decide_eq_false (by omega)).symm) | (refine congrArg Value.bool ?_;exact (decide_eq_true (by omega)).symm) | (exfalso;omega) | (simp_all;done) | (refine congrArg Value.bool ?_;apply decide_eq_decide.mpr;simp_all;done)))))
def z33 (p:Pt):Prop:=p.typ < 1∨p.typ > 3
instance (p:Pt):Decidable (z33 p):=by unfold z33;exact inferInstance
theorem zbdz (H:Heap) (p:Pt) (Q:V→Heap→Prop) (hQ:∀ H',Keeps [] H H'→Q (.bool (decide (z33 p))) H'):wp (zhe [p.agg]) Q H:=by
 show wp (zsw p.agg) Q H
 (repeat' (first | (simp (maxSteps:=999999) (disch:=try exact ZD) only[ZB,zsw]) | (refine zkx (fun _=>?_) (fun _=>?_)) | (refine zpx (fun _=>?_) (fun _=>?_)) | (refine zm8 (fun _=>?_) (fun _=>?_)) | (refine zi6 (fun _=>?_) (fun _=>?_)) | (refine zsq (fun _=>?_) (fun _=>?_)) | (refine z0d (fun _=>?_) (fun _=>?_)) | (refine zvr (fun _=>?_) (fun _=>?_)) | (refine zpy (fun _=>?_) (fun _=>?_))))
 all_goals refine q_of (hQ _ (Keeps.push _ _ _)) ?_
 all_goals ((try simp only[z33,true_and,and_true,false_and,and_false,true_or,or_true,false_or,or_false]);(try ((repeat' split) <;> (first | rfl | omega | (refine congrArg (Value.int _) ?_;omega) | (refine congrArg Value.bool ?_;apply decide_eq_decide.mpr;omega) | (refine congrArg Value.bool ?_;exact (decide_eq_false (by omega)).symm) | (refine congrArg Value.bool ?_;exact (decide_eq_true (by omega)).symm) | (exfalso;omega) | (simp_all;done) | (refine congrArg Value.bool ?_;apply decide_eq_decide.mpr;simp_all;done)))))
abbrev SC:zx:=ovr [(zco,zhe)] noC
theorem zbrr (H:Heap) (lv:V) (ls:List Pt) (hl:Sl H lv ls) (hn:ls.length≤1000000) (Q:V→Heap→Prop) (hQ:∀ H',Keeps [] H H'→Q (.bool (decide (∃ p∈ls,z33 p))) H') :
  wp (zb4 SC [lv,.func (.func zco) #[] #[]]) Q H:=by
 show wp (zcx SC lv (.func (.func zco) #[] #[])) Q H
 simp only[zcx,z7]
 show wp (zc8 SC lv (.func (.func zco) #[] #[])) _ H
 (try simp (maxSteps:=999999) (disch:=try exact ZD) only[ZB,zc8,hl.len])
 refine zd6 (Inv:=fun k vs H'=>∃ i:Nat,k=ls.length - i∧i≤ls.length∧vs=[lv,.func (.func zco) #[] #[],i64 ls.length,i64 i]∧Keeps [] H H'∧∀ p∈ls.take i,¬ z33 p) (n:=ls.length) (by unfold zbm;omega)
  ⟨0,by omega,by omega,rfl,Keeps.refl _ _,by simp⟩ ?_
 rintro k vs H' ⟨i,hk,hi,rfl,kk,hi2⟩
 have hl':=hl.keep0 kk
 by_cases h:i < ls.length
 ·have hcall:∀ x,znw (ovr [] SC) (.func (.func zco) #[] #[]) [x]=zhe [x]:=fun _=>rfl
  (try simp (maxSteps:=999999) (disch:=try exact ZD) only[ZB,zc5,ze8,hl'.addr' (n:=2) rfl,hl'.ldn' (n:=2) rfl _ default,Int.toNat_natCast,zbua,hcall])
  refine zbdz _ (ls.getD i default) _ fun H2 k2=>?_
  have k02:Keeps [] H H2:=kk.trans k2 (fun _ _ h=>h)
  have hmem:ls.getD i default∈ls:=by rw[List.getD_eq_getElem?_getD,List.getElem?_eq_getElem h];exact List.getElem_mem _
  by_cases hb:z33 (ls.getD i default)
  ·(try simp (maxSteps:=999999) (disch:=try exact ZD) only[ZB])
   have:(∃ p∈ls,z33 p):=⟨_,hmem,hb⟩
   have q:=hQ H2 k02
   rw[decide_eq_true this] at q
   first | exact q | (rw[decide_eq_true (by omega)];exact q)
  ·(try simp (maxSteps:=999999) (disch:=try exact ZD) only[ZB,ze7])
   refine⟨ls.length - (i + 1),by omega,i + 1,rfl,by omega,rfl,k02,fun p hp=>?_⟩
   rw[List.take_succ] at hp
   rcases List.mem_append.1 hp with q | q
   ·exact hi2 p q
   ·rw[List.getElem?_eq_getElem h] at q
    simp at q;subst q
    rw[List.getD_eq_getElem?_getD,List.getElem?_eq_getElem h] at hb;exact hb
 ·have:i=ls.length:=by omega
  subst this
  rw[List.take_length] at hi2
  (try simp (maxSteps:=999999) (disch:=try exact ZD) only[ZB,zc5,ze9])
  have q:=hQ H' kk
  rw[decide_eq_false (by rintro⟨p,hp,hb⟩;exact hi2 p hp hb)] at q
  first | exact q | (rw[decide_eq_false (by omega)];exact q)
end Go.AM.Cap

/- points: Check -/
set_option maxHeartbeats 8000000
namespace Go.AM.Cap
open Go.AM Go.Proofs
theorem zbaa {α:Type} (l:List α) (i:Nat) (d:α) (h:i < l.length):l.drop i=l.getD i d :: l.drop (i + 1):=by
 rw[List.getD_eq_getElem?_getD,List.getElem?_eq_getElem h];exact List.drop_eq_getElem_cons h
def hasG (es:List (Gr × Bool)) (g:Gr):Bool:=(zjz es g).getD false
def hasI (es:List (Int × Bool)) (g:Int):Bool:=(zjz es g).getD false
abbrev ptAt (ls:List Pt) (i:Int):Pt:=ls.getD i.toNat default
def chkG (ls:List Pt):Nat→List (Gr × Bool)→List (Int × Bool)→List Gr→Int × Int
 | _,_,_,[]=>(0,0)
 | i,sn,wr,g :: gs =>
  if ¬ (0≤g.part∧g.part < 8)∨g.point < 0∨g.point≥ls.length then ((i:Int),1) else
  if g.write=true∧¬ (ptAt ls g.point).out=true then ((i:Int),91) else
  if hasG sn g=true∨(g.write=true∧hasI wr g.point=true) then ((i:Int),190) else
  chkG ls (i + 1) (zif sn g true) (zif wr g.point (hasI wr g.point || g.write)) gs
instance (ls:List Pt):Decidable (∃ p∈ls,z33 p):=inferInstance
def chkB (ls:List Pt) (gs:List Gr):Int × Int :=
 if ls.length > 64 then (-1,2) else if ∃ p∈ls,z33 p then (-1,40) else chkG ls 0 [] [] gs
theorem _root_.Go.AM.Sl.blt {α:Type} [Flat α] {H:Heap} {v:V} {l:List α} (h:Sl H v l) (hn:0 < l.length):slB v < H.next:=by
 rcases h with⟨rfl,rfl⟩ | ⟨b,o,u,c,rfl,hc,hb,_⟩
 ·simp at hn
 ·exact hb
theorem z3r (H:Heap) (lv gv:V) (ls:List Pt) (gs:List Gr) (hl:Sl H lv ls) (hg:Sl H gv gs) (hn:gs.length≤1048576) (Q:V→Heap→Prop) (hQ:∀ H',Keeps [] H H'→Q (.tuple #[i64 (chkB ls gs).1,i64 (chkB ls gs).2]) H'):wp (zjc [lv,gv]) Q H:=by
 show wp (zq7 lv gv) Q H
 by_cases h64:(ls.length:Int) > 64
 ·(try simp (maxSteps:=999999) (disch:=try exact ZD) only[ZB,zq7,hl.len])
  have:=hQ H (Keeps.refl _ _)
  rw[chkB,if_pos (by omega)] at this
  exact this
 (try simp (maxSteps:=999999) (disch:=try exact ZD) only[ZB,zq7,hl.len])
 refine zbrr H lv ls hl (by omega) _ fun H1 k1=>?_
 by_cases hb:∃ p∈ls,z33 p
 ·rw[decide_eq_true hb]
  (try simp (maxSteps:=999999) (disch:=try exact ZD) only[ZB])
  have:=hQ H1 k1
  rw[chkB,if_neg (by omega),if_pos hb] at this
  exact this
 rw[decide_eq_false hb]
 have hc:chkB ls gs=chkG ls 0 [] [] gs:=by rw[chkB,if_neg (by omega),if_neg hb]
 rw[hc] at hQ
 have hg1:=hg.keep0 k1
 (try simp (maxSteps:=999999) (disch:=try exact ZD) only[ZB,z3h,zbqh,hg1.len,hg.len])
 generalize hm1:H1.next=m1
 have hE:H1.next≤m1:=by omega
 refine zd6 (Inv:=fun k vs H'=>∃ (i:Nat) (sn:List (Gr × Bool)) (wr:List (Int × Bool)),k=gs.length - i∧i≤gs.length∧vs=[lv,.map (some m1),.map (some (m1 + 1)),gv,i64 gs.length,i64 i]∧Keeps [] H1 H'∧H'.get m1=some (.map true (sn.map zlm))∧H'.get (m1 + 1)=some (.map true (wr.map zlm))∧chkG ls i sn wr (gs.drop i)=chkG ls 0 [] [] gs) (n:=gs.length) (by unfold zbm;omega)
  ⟨0,[],[],by omega,by omega,?_,zbq (Keeps.push _ _ _),?_,?_,rfl⟩ ?_
 ·subst hm1;rfl
 ·subst hm1
  rw[Heap.get_push_lt (by simp)];exact Heap.get_push_self _ _
 ·subst hm1
  exact Heap.get_push_eq (by simp)
 rintro k vs H' ⟨i,sn,wr,hk,hi,rfl,kk,hsn,hwr,hi2⟩
 have hl':=hl.keep0 (k1.trans kk (fun _ _ h=>h))
 have hg':=hg1.keep0 kk
 have hlt1:=Heap.get_lt hsn
 have hlt2:=Heap.get_lt hwr
 by_cases h:i < gs.length
 ·rw[zbaa gs i default h,chkG] at hi2
  generalize hgg:gs.getD i default=g at hi2
  obtain⟨pa,po,w⟩:=g
  simp only at hi2
  (try simp (maxSteps:=999999) (disch:=try exact ZD) only[ZB,zud,z3f,hg'.addr' (n:=3) rfl,hg'.ldn' (n:=3) rfl _ default,Int.toNat_natCast,zxm,hgg,zbg3,hl'.len])
  have kpush:Keeps [] H1 (H'.push (some (.cells true [i64 pa,i64 po,.bool w]))):=zbq kk
  have hfin:=k1.trans kpush (fun _ _ h=>h)
  by_cases c1:¬ (0≤pa∧pa < 8)∨po < 0∨po≥ls.length
  ·rw[if_pos c1] at hi2
   have q:=hQ _ hfin
   rw[← hi2] at q
   by_cases d1:0≤pa∧pa < 8
   ·by_cases d2:po < 0
    ·(try simp (maxSteps:=999999) (disch:=try exact ZD) only[ZB,decide_eq_true d1])
     exact q
    ·(try simp (maxSteps:=999999) (disch:=try exact ZD) only[ZB,decide_eq_true d1,hl'.len])
     exact q
   ·(try simp (maxSteps:=999999) (disch:=try exact ZD) only[ZB,decide_eq_false d1])
    exact q
  rw[if_neg c1] at hi2
  have c1':(0≤pa∧pa < 8)∧0≤po∧po < ls.length:=by omega
  obtain⟨d1,d2,d3⟩:=c1'
  have hli:po.toNat < ls.length:=by omega
  have hsb:slB lv < H'.next:=hl'.blt (by omega)
  have hcell:zes (H'.get (slB lv)) (slO lv + po.toNat * 2 + 1)=some (.bool (ptAt ls po).out):=by
   rw[← zbd,hl'.cell' (n:=2) rfl hli (by decide:1 < 2) default];rfl
  have ha2:=hl'.addr' (n:=2) rfl (k := .i64) d2 d3
  by_cases c2:w=true∧¬ (ptAt ls po).out=true
  ·rw[if_pos c2] at hi2
   have q:=hQ _ hfin
   rw[← hi2] at q
   obtain⟨rfl,e2⟩:=c2
   have e2:(ptAt ls po).out=false:=by simpa using e2
   (try simp (maxSteps:=999999) (disch:=try exact ZD) only[ZB,decide_eq_true d1,hl'.len,ha2,hcell,e2])
   exact q
  rw[if_neg c2] at hi2
  have hlt1':m1 < H'.next + 1:=by omega
  by_cases c3:hasG sn ⟨pa,po,w⟩=true∨(w=true∧hasI wr po=true)
  ·rw[if_pos c3] at hi2
   have q:=hQ _ hfin
   rw[← hi2] at q
   cases e3:hasG sn ⟨pa,po,w⟩ with
   | true =>
    have e3':(zjz sn ⟨pa,po,w⟩).getD false=true:=e3
    cases w with
    | false =>
     (try simp (maxSteps:=999999) (disch:=try exact ZD) only[ZB,decide_eq_true d1,hl'.len,zhh,lkGB,hsn,e3'])
     exact q
    | true =>
     have e2:(ptAt ls po).out=true:=by simpa using c2
     (try simp (maxSteps:=999999) (disch:=try exact ZD) only[ZB,decide_eq_true d1,hl'.len,ha2,hcell,e2,zhh,lkGB,hsn,e3'])
     exact q
   | false =>
    have e3':(zjz sn ⟨pa,po,w⟩).getD false=false:=e3
    have hw:w=true∧hasI wr po=true:=by rcases c3 with c3 | c3;rw[e3] at c3;cases c3;exact c3
    obtain⟨rfl,e4⟩:=hw
    have e4':(zjz wr po).getD false=true:=e4
    have e2:(ptAt ls po).out=true:=by simpa using c2
    (try simp (maxSteps:=999999) (disch:=try exact ZD) only[ZB,decide_eq_true d1,hl'.len,ha2,hcell,e2,zhh,lkGB,lkIB,hsn,hwr,e3',e4'])
    exact q
  rw[if_neg c3] at hi2
  have e3:(zjz sn ⟨pa,po,w⟩).getD false=false:=by cases hq:(zjz sn ⟨pa,po,w⟩).getD false;rfl;exact absurd (.inl hq) c3
  have fin:wp (zkk [lv,.map (some m1),.map (some (m1 + 1)),ptr H'.next 0,gv,i64 gs.length,i64 i]) (fun o H2=>∃ vs,o = .nxt vs∧vs=[lv,.map (some m1),.map (some (m1 + 1)),gv,i64 gs.length,i64 i]∧Keeps [] H1 H2∧H2.get m1=some (.map true ((zif sn ⟨pa,po,w⟩ true).map zlm))∧H2.get (m1 + 1)=some (.map true ((zif wr po (hasI wr po || w)).map zlm))) (H'.push (some (.cells true [i64 pa,i64 po,.bool w]))):=by
   have hasg:∀ v,zif wr po (hasI wr po || w)=v→zif wr po ((zjz wr po).getD false || w)=v:=fun v h=>h
   cases e4:hasI wr po with
   | true =>
    have e4':(zjz wr po).getD false=true:=e4
    (try simp (maxSteps:=999999) (disch:=try exact ZD) only[ZB,zkk,zv6,stGB,stIB,zhh,lkIB,hsn,hwr,e4'])
    exact⟨_,rfl,rfl,zbq (zb7 (zb7 kk (.inr hE)) (.inr (by omega))),rfl⟩
   | false =>
    have e4':(zjz wr po).getD false=false:=e4
    (try simp (maxSteps:=999999) (disch:=try exact ZD) only[ZB,zkk,zv6,stGB,stIB,zhh,lkIB,hsn,hwr,e4'])
    exact⟨_,rfl,rfl,zbq (zb7 (zb7 kk (.inr hE)) (.inr (by omega))),rfl⟩
  have done:∀ R:Out→Heap→Prop,(∀ vs' H6,(∃ k',k' < k∧∃ (i:Nat) (sn:List (Gr × Bool)) (wr:List (Int × Bool)),k'=gs.length - i∧i≤gs.length∧vs'=[lv,.map (some m1),.map (some (m1 + 1)),gv,i64 gs.length,i64 i]∧Keeps [] H1 H6∧H6.get m1=some (.map true (sn.map zlm))∧H6.get (m1 + 1)=some (.map true (wr.map zlm))∧chkG ls i sn wr (gs.drop i)=chkG ls 0 [] [] gs)→R (.nxt vs') H6) →
    wp (zkk [lv,.map (some m1),.map (some (m1 + 1)),ptr H'.next 0,gv,i64 gs.length,i64 i]) (fun b H5=>wp (nx (zv 2 b) zuc) R H5) (H'.push (some (.cells true [i64 pa,i64 po,.bool w]))):=by
   intro R hR
   refine zbci fin fun o H2 ho=>?_
   obtain⟨vs,rfl,rfl,q1,q2,q3⟩:=ho
   (try simp (maxSteps:=999999) (disch:=try exact ZD) only[ZB,zuc])
   exact hR _ _ ⟨gs.length - (i + 1),by omega,i + 1,_,_,rfl,by omega,rfl,q1,q2,q3,hi2⟩
  cases w with
  | false =>
   (try simp (maxSteps:=999999) (disch:=try exact ZD) only[ZB,decide_eq_true d1,hl'.len,zhh,lkGB,hsn,e3])
   exact done _ (fun _ _ h=>h)
  | true =>
   have e2:(ptAt ls po).out=true:=by simpa using c2
   have e4:(zjz wr po).getD false=false:=by cases hq:(zjz wr po).getD false;rfl;exact absurd (.inr ⟨rfl,hq⟩) c3
   (try simp (maxSteps:=999999) (disch:=try exact ZD) only[ZB,decide_eq_true d1,hl'.len,ha2,hcell,e2,zhh,lkGB,lkIB,hsn,hwr,e3,e4])
   exact done _ (fun _ _ h=>h)
 ·have:i=gs.length:=by omega
  subst this
  rw[List.drop_length,chkG] at hi2
  (try simp (maxSteps:=999999) (disch:=try exact ZD) only[ZB,zud,z3g])
  have q:=hQ H' (k1.trans kk (fun _ _ h=>h))
  rw[← hi2] at q
  exact q
end Go.AM.Cap
