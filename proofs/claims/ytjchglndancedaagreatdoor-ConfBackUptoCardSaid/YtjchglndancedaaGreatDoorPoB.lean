import Derived.Test.YtjchglndancedaaGreatDoorPnA
import Derived.Test.YtjchglndancedaaGreatDoorAmIn
set_option linter.all false
/- points: Check -/
set_option maxHeartbeats 8000000
namespace Go.AM.Cap
open Go.AM Go.Proofs
theorem zbds {α:Type} (l:List α) (i:Nat) (d:α) (h:i < l.length):l.drop i=l.getD i d :: l.drop (i + 1):=by
 rw[List.getD_eq_getElem?_getD,List.getElem?_eq_getElem h];exact List.drop_eq_getElem_cons h
def hasG (es:List (Gr × Bool)) (g:Gr):Bool:=(znb es g).getD false
def hasI (es:List (Int × Bool)) (g:Int):Bool:=(znb es g).getD false
abbrev ptAt (ls:List Pt) (i:Int):Pt:=ls.getD i.toNat default
def chkG (ls:List Pt):Nat→List (Gr × Bool)→List (Int × Bool)→List Gr→Int × Int
 | _,_,_,[]=>(0,0)
 | i,sn,wr,g :: gs =>
  if ¬ (0≤g.part∧g.part < 8)∨g.point < 0∨g.point≥ls.length then ((i:Int),1) else
  if g.write=true∧¬ (ptAt ls g.point).out=true then ((i:Int),91) else
  if hasG sn g=true∨(g.write=true∧hasI wr g.point=true) then ((i:Int),190) else
  chkG ls (i + 1) (zji sn g true) (zji wr g.point (hasI wr g.point || g.write)) gs
instance (ls:List Pt):Decidable (∃ p∈ls,z62 p):=inferInstance
def chkB (ls:List Pt) (gs:List Gr):Int × Int :=
 if ls.length > 64 then (-1,2) else if ∃ p∈ls,z62 p then (-1,40) else chkG ls 0 [] [] gs
theorem _root_.Go.AM.Sl.blt {α:Type} [Flat α] {H:Heap} {v:V} {l:List α} (h:Sl H v l) (hn:0 < l.length):slB v < H.next:=by
 rcases h with⟨rfl,rfl⟩ | ⟨b,o,u,c,rfl,hc,hb,_⟩
 ·simp at hn
 ·exact hb
theorem z01 (H:Heap) (lv gv:V) (ls:List Pt) (gs:List Gr) (hl:Sl H lv ls) (hg:Sl H gv gs) (hn:gs.length≤1048576) (Q:V→Heap→Prop) (hQ:∀ H',Keeps [] H H'→Q (.tuple #[i64 (chkB ls gs).1,i64 (chkB ls gs).2]) H'):wp (zi0 [lv,gv]) Q H:=by
 show wp (zpk lv gv) Q H
 by_cases h64:(ls.length:Int) > 64
 ·(try simp(maxSteps:=1000000)(disch:=first|omega|(simp only[Z3];omega)|(simp;done)|assumption|decide|(apply not_not_intro;assumption))only[ZB,zpk,hl.len])
  have:=hQ H (Keeps.refl _ _)
  rw[chkB,if_pos (by omega)] at this
  exact this
 (try simp(maxSteps:=1000000)(disch:=first|omega|(simp only[Z3];omega)|(simp;done)|assumption|decide|(apply not_not_intro;assumption))only[ZB,zpk,hl.len])
 refine zbki H lv ls hl (by omega) _ fun H1 k1=>?_
 by_cases hb:∃ p∈ls,z62 p
 ·rw[decide_eq_true hb]
  (try simp(maxSteps:=1000000)(disch:=first|omega|(simp only[Z3];omega)|(simp;done)|assumption|decide|(apply not_not_intro;assumption))only[ZB])
  have:=hQ H1 k1
  rw[chkB,if_neg (by omega),if_pos hb] at this
  exact this
 rw[decide_eq_false hb]
 have hc:chkB ls gs=chkG ls 0 [] [] gs:=by rw[chkB,if_neg (by omega),if_neg hb]
 rw[hc] at hQ
 have hg1:=hg.keep0 k1
 (try simp(maxSteps:=1000000)(disch:=first|omega|(simp only[Z3];omega)|(simp;done)|assumption|decide|(apply not_not_intro;assumption))only[ZB,z00,zbjw,hg1.len,hg.len])
 generalize hm1:H1.next=m1
 have hE:H1.next≤m1:=by omega
 refine zl4 (Inv:=fun k vs H'=>∃ (i:Nat) (sn:List (Gr × Bool)) (wr:List (Int × Bool)),k=gs.length - i∧i≤gs.length∧vs=[lv,.map (some m1),.map (some (m1 + 1)),gv,i64 gs.length,i64 i]∧Keeps [] H1 H'∧H'.get m1=some (.map true (sn.map zkt))∧H'.get (m1 + 1)=some (.map true (wr.map zkt))∧chkG ls i sn wr (gs.drop i)=chkG ls 0 [] [] gs) (n:=gs.length) (by unfold zby;omega)
  ⟨0,[],[],by omega,by omega,?_,zbz (Keeps.push _ _ _),?_,?_,rfl⟩ ?_
 ·subst hm1;rfl
 ·subst hm1
  rw[Heap.get_push_lt (by simp)];exact Heap.get_push_self _ _
 ·subst hm1
  exact Heap.get_push_eq (by simp)
 rintro k vs H' ⟨i,sn,wr,hk,hi,rfl,kk,hsn,hwr,hi2⟩
 have hl':=hl.keep0 (k1.trans kk (fun _ _ h=>h))
 have hg':=hg1.keep0 kk
 have hlt1:=Heap.get_lt hsn
 have hlt2:=Heap.get_lt hwr
 by_cases h:i < gs.length
 ·rw[zbds gs i default h,chkG] at hi2
  generalize hgg:gs.getD i default=g at hi2
  obtain⟨pa,po,w⟩:=g
  simp only at hi2
  (try simp(maxSteps:=1000000)(disch:=first|omega|(simp only[Z3];omega)|(simp;done)|assumption|decide|(apply not_not_intro;assumption))only[ZB,zsm,z0y,hg'.addr' (n:=3) rfl,hg'.ldn' (n:=3) rfl _ default,Int.toNat_natCast,zvs,hgg,zbbm,hl'.len])
  have kpush:Keeps [] H1 (H'.push (some (.cells true [i64 pa,i64 po,.bool w]))):=zbz kk
  have hfin:=k1.trans kpush (fun _ _ h=>h)
  by_cases c1:¬ (0≤pa∧pa < 8)∨po < 0∨po≥ls.length
  ·rw[if_pos c1] at hi2
   have q:=hQ _ hfin
   rw[← hi2] at q
   by_cases d1:0≤pa∧pa < 8
   ·by_cases d2:po < 0
    ·(try simp(maxSteps:=1000000)(disch:=first|omega|(simp only[Z3];omega)|(simp;done)|assumption|decide|(apply not_not_intro;assumption))only[ZB,decide_eq_true d1])
     exact q
    ·(try simp(maxSteps:=1000000)(disch:=first|omega|(simp only[Z3];omega)|(simp;done)|assumption|decide|(apply not_not_intro;assumption))only[ZB,decide_eq_true d1,hl'.len])
     exact q
   ·(try simp(maxSteps:=1000000)(disch:=first|omega|(simp only[Z3];omega)|(simp;done)|assumption|decide|(apply not_not_intro;assumption))only[ZB,decide_eq_false d1])
    exact q
  rw[if_neg c1] at hi2
  have c1':(0≤pa∧pa < 8)∧0≤po∧po < ls.length:=by omega
  obtain⟨d1,d2,d3⟩:=c1'
  have hli:po.toNat < ls.length:=by omega
  have hsb:slB lv < H'.next:=hl'.blt (by omega)
  have hcell:zie (H'.get (slB lv)) (slO lv + po.toNat * 2 + 1)=some (.bool (ptAt ls po).out):=by
   rw[← zcm,hl'.cell' (n:=2) rfl hli (by decide:1 < 2) default];rfl
  have ha2:=hl'.addr' (n:=2) rfl (k := .i64) d2 d3
  by_cases c2:w=true∧¬ (ptAt ls po).out=true
  ·rw[if_pos c2] at hi2
   have q:=hQ _ hfin
   rw[← hi2] at q
   obtain⟨rfl,e2⟩:=c2
   have e2:(ptAt ls po).out=false:=by simpa using e2
   (try simp(maxSteps:=1000000)(disch:=first|omega|(simp only[Z3];omega)|(simp;done)|assumption|decide|(apply not_not_intro;assumption))only[ZB,decide_eq_true d1,hl'.len,ha2,hcell,e2])
   exact q
  rw[if_neg c2] at hi2
  have hlt1':m1 < H'.next + 1:=by omega
  by_cases c3:hasG sn ⟨pa,po,w⟩=true∨(w=true∧hasI wr po=true)
  ·rw[if_pos c3] at hi2
   have q:=hQ _ hfin
   rw[← hi2] at q
   cases e3:hasG sn ⟨pa,po,w⟩ with
   | true =>
    have e3':(znb sn ⟨pa,po,w⟩).getD false=true:=e3
    cases w with
    | false =>
     (try simp(maxSteps:=1000000)(disch:=first|omega|(simp only[Z3];omega)|(simp;done)|assumption|decide|(apply not_not_intro;assumption))only[ZB,decide_eq_true d1,hl'.len,zg9,lkGB,hsn,e3'])
     exact q
    | true =>
     have e2:(ptAt ls po).out=true:=by simpa using c2
     (try simp(maxSteps:=1000000)(disch:=first|omega|(simp only[Z3];omega)|(simp;done)|assumption|decide|(apply not_not_intro;assumption))only[ZB,decide_eq_true d1,hl'.len,ha2,hcell,e2,zg9,lkGB,hsn,e3'])
     exact q
   | false =>
    have e3':(znb sn ⟨pa,po,w⟩).getD false=false:=e3
    have hw:w=true∧hasI wr po=true:=by rcases c3 with c3 | c3;rw[e3] at c3;cases c3;exact c3
    obtain⟨rfl,e4⟩:=hw
    have e4':(znb wr po).getD false=true:=e4
    have e2:(ptAt ls po).out=true:=by simpa using c2
    (try simp(maxSteps:=1000000)(disch:=first|omega|(simp only[Z3];omega)|(simp;done)|assumption|decide|(apply not_not_intro;assumption))only[ZB,decide_eq_true d1,hl'.len,ha2,hcell,e2,zg9,lkGB,lkIB,hsn,hwr,e3',e4'])
    exact q
  rw[if_neg c3] at hi2
  have e3:(znb sn ⟨pa,po,w⟩).getD false=false:=by cases hq:(znb sn ⟨pa,po,w⟩).getD false;rfl;exact absurd (.inl hq) c3
  have fin:wp (zju [lv,.map (some m1),.map (some (m1 + 1)),ptr H'.next 0,gv,i64 gs.length,i64 i]) (fun o H2=>∃ vs,o = .nxt vs∧vs=[lv,.map (some m1),.map (some (m1 + 1)),gv,i64 gs.length,i64 i]∧Keeps [] H1 H2∧H2.get m1=some (.map true ((zji sn ⟨pa,po,w⟩ true).map zkt))∧H2.get (m1 + 1)=some (.map true ((zji wr po (hasI wr po || w)).map zkt))) (H'.push (some (.cells true [i64 pa,i64 po,.bool w]))):=by
   have hasg:∀ v,zji wr po (hasI wr po || w)=v→zji wr po ((znb wr po).getD false || w)=v:=fun v h=>h
   cases e4:hasI wr po with
   | true =>
    have e4':(znb wr po).getD false=true:=e4
    (try simp(maxSteps:=1000000)(disch:=first|omega|(simp only[Z3];omega)|(simp;done)|assumption|decide|(apply not_not_intro;assumption))only[ZB,zju,zur,stGB,stIB,zg9,lkIB,hsn,hwr,e4'])
    exact⟨_,rfl,rfl,zbz (zbw (zbw kk (.inr hE)) (.inr (by omega))),rfl⟩
   | false =>
    have e4':(znb wr po).getD false=false:=e4
    (try simp(maxSteps:=1000000)(disch:=first|omega|(simp only[Z3];omega)|(simp;done)|assumption|decide|(apply not_not_intro;assumption))only[ZB,zju,zur,stGB,stIB,zg9,lkIB,hsn,hwr,e4'])
    exact⟨_,rfl,rfl,zbz (zbw (zbw kk (.inr hE)) (.inr (by omega))),rfl⟩
  have done:∀ R:Out→Heap→Prop,(∀ vs' H6,(∃ k',k' < k∧∃ (i:Nat) (sn:List (Gr × Bool)) (wr:List (Int × Bool)),k'=gs.length - i∧i≤gs.length∧vs'=[lv,.map (some m1),.map (some (m1 + 1)),gv,i64 gs.length,i64 i]∧Keeps [] H1 H6∧H6.get m1=some (.map true (sn.map zkt))∧H6.get (m1 + 1)=some (.map true (wr.map zkt))∧chkG ls i sn wr (gs.drop i)=chkG ls 0 [] [] gs)→R (.nxt vs') H6) →
    wp (zju [lv,.map (some m1),.map (some (m1 + 1)),ptr H'.next 0,gv,i64 gs.length,i64 i]) (fun b H5=>wp (nx (zz 2 b) zsl) R H5) (H'.push (some (.cells true [i64 pa,i64 po,.bool w]))):=by
   intro R hR
   refine z7v fin fun o H2 ho=>?_
   obtain⟨vs,rfl,rfl,q1,q2,q3⟩:=ho
   (try simp(maxSteps:=1000000)(disch:=first|omega|(simp only[Z3];omega)|(simp;done)|assumption|decide|(apply not_not_intro;assumption))only[ZB,zsl])
   exact hR _ _ ⟨gs.length - (i + 1),by omega,i + 1,_,_,rfl,by omega,rfl,q1,q2,q3,hi2⟩
  cases w with
  | false =>
   (try simp(maxSteps:=1000000)(disch:=first|omega|(simp only[Z3];omega)|(simp;done)|assumption|decide|(apply not_not_intro;assumption))only[ZB,decide_eq_true d1,hl'.len,zg9,lkGB,hsn,e3])
   exact done _ (fun _ _ h=>h)
  | true =>
   have e2:(ptAt ls po).out=true:=by simpa using c2
   have e4:(znb wr po).getD false=false:=by cases hq:(znb wr po).getD false;rfl;exact absurd (.inr ⟨rfl,hq⟩) c3
   (try simp(maxSteps:=1000000)(disch:=first|omega|(simp only[Z3];omega)|(simp;done)|assumption|decide|(apply not_not_intro;assumption))only[ZB,decide_eq_true d1,hl'.len,ha2,hcell,e2,zg9,lkGB,lkIB,hsn,hwr,e3,e4])
   exact done _ (fun _ _ h=>h)
 ·have:i=gs.length:=by omega
  subst this
  rw[List.drop_length,chkG] at hi2
  (try simp(maxSteps:=1000000)(disch:=first|omega|(simp only[Z3];omega)|(simp;done)|assumption|decide|(apply not_not_intro;assumption))only[ZB,zsm,z0z])
  have q:=hQ H' (k1.trans kk (fun _ _ h=>h))
  rw[← hi2] at q
  exact q
end Go.AM.Cap

/- ports: which ports may be -/
set_option maxHeartbeats 8000000
namespace Go.AM.Cap
open Go.AM Go.Proofs
structure Port where
 kind:Int
 src:Int
 dst:Int
 typ:Int
 cap:Int
 deriving DecidableEq,Inhabited
def Port.cells (p:Port):List V:=[i64 p.kind,i64 p.src,i64 p.dst,i64 p.typ,i64 p.cap]
instance:Flat Port:=⟨5,Port.cells,fun _=>rfl,fun _=>rfl,by decide⟩
theorem z27 (p:Port):Flat.enc p=[i64 p.kind,i64 p.src,i64 p.dst,i64 p.typ,i64 p.cap]:=rfl
abbrev Port.agg (p:Port):V := .agg [i64 p.kind,i64 p.src,i64 p.dst,i64 p.typ,i64 p.cap].toArray
theorem zbdu (x:Int):znh [i64 x]=ret (.bool (decide (0≤x∧x < 8))):=zbr3 fun H=>by
 show wp (zxd (i64 x)) _ H
 (repeat' (first | (simp(maxSteps:=1000000)(disch:=first|omega|(simp only[Z3];omega)|(simp;done)|assumption|decide|(apply not_not_intro;assumption))only[ZB,zxd]) | (refine zrd (fun _=>?_) (fun _=>?_)) | (refine zwk (fun _=>?_) (fun _=>?_)) | (refine zti (fun _=>?_) (fun _=>?_)) | (refine zo3 (fun _=>?_) (fun _=>?_)) | (refine zzj (fun _=>?_) (fun _=>?_)) | (refine z7y (fun _=>?_) (fun _=>?_)) | (refine z30 (fun _=>?_) (fun _=>?_)) | (refine zwl (fun _=>?_) (fun _=>?_))))
 all_goals refine⟨?_,by trivial⟩
 all_goals ((try simp only[true_and,and_true,false_and,and_false,true_or,or_true,false_or,or_false]);(try ((repeat' split) <;> (first | rfl | omega | (refine congrArg (Value.int _) ?_;omega) | (refine congrArg Value.bool ?_;apply decide_eq_decide.mpr;omega) | (refine congrArg Value.bool ?_;exact (decide_eq_false (by omega)).symm) | (refine congrArg Value.bool ?_;exact (decide_eq_true (by omega)).symm) | (exfalso;omega) | (simp_all;done) | (refine congrArg Value.bool ?_;apply decide_eq_decide.mpr;simp_all;done)))))
def zvt (p:Port):Int :=
 if p.kind≠1∧p.kind≠2 then 91 else
 if ¬ (0≤p.src∧p.src < 8)∨¬ (0≤p.dst∧p.dst < 8) then 1 else
 if p.src=p.dst then 4 else
 if p.typ < 1∨p.typ > 3 then 40 else
 if p.kind=1∧p.cap≠0∨p.kind=2∧(p.cap < 1∨p.cap > 16) then 1 else 0
theorem zbdv (H:Heap) (p:Port) (Q:V→Heap→Prop) (hQ:∀ H',Keeps [] H H'→Q (i64 (zvt p)) H'):wp (zrf [p.agg]) Q H:=by
 show wp (zxe p.agg) Q H
 (repeat' (first | (simp(maxSteps:=1000000)(disch:=first|omega|(simp only[Z3];omega)|(simp;done)|assumption|decide|(apply not_not_intro;assumption))only[ZB,zxe,z2h,z2g,zbdu]) | (refine zrd (fun _=>?_) (fun _=>?_)) | (refine zwk (fun _=>?_) (fun _=>?_)) | (refine zti (fun _=>?_) (fun _=>?_)) | (refine zo3 (fun _=>?_) (fun _=>?_)) | (refine zzj (fun _=>?_) (fun _=>?_)) | (refine z7y (fun _=>?_) (fun _=>?_)) | (refine z30 (fun _=>?_) (fun _=>?_)) | (refine zwl (fun _=>?_) (fun _=>?_))))
 all_goals refine q_of (hQ _ (Keeps.push _ _ _)) ?_
 all_goals ((try simp only[zvt,true_and,and_true,false_and,and_false,true_or,or_true,false_or,or_false]);(try ((repeat' split) <;> (first | rfl | omega | (refine congrArg (Value.int _) ?_;omega) | (refine congrArg Value.bool ?_;apply decide_eq_decide.mpr;omega) | (refine congrArg Value.bool ?_;exact (decide_eq_false (by omega)).symm) | (refine congrArg Value.bool ?_;exact (decide_eq_true (by omega)).symm) | (exfalso;omega) | (simp_all;done) | (refine congrArg Value.bool ?_;apply decide_eq_decide.mpr;simp_all;done)))))
end Go.AM.Cap

/- ports: Check -/
set_option maxHeartbeats 8000000
namespace Go.AM.Cap
open Go.AM Go.Proofs
def chkL:Nat→List Port→Int × Int
 | _,[]=>(0,0)
 | i,p :: ps=>if zvt p≠0 then ((i:Int),zvt p) else chkL (i + 1) ps
def chkP (ls:List Port):Int × Int:=if ls.length > 16 then (-1,2) else chkL 0 ls
theorem zbsa {α:Type} (l:List α) (i:Nat) (d:α) (h:i < l.length):l.drop i=l.getD i d :: l.drop (i + 1):=by
 rw[List.getD_eq_getElem?_getD,List.getElem?_eq_getElem h];exact List.drop_eq_getElem_cons h
theorem z28 (H:Heap) (lv:V) (ls:List Port) (hl:Sl H lv ls) (Q:V→Heap→Prop) (hQ:∀ H',Keeps [] H H'→Q (.tuple #[i64 (chkP ls).1,i64 (chkP ls).2]) H'):wp (zj8 [lv]) Q H:=by
 show wp (zrg lv) Q H
 by_cases h16:(ls.length:Int) > 16
 ·(try simp(maxSteps:=1000000)(disch:=first|omega|(simp only[Z3];omega)|(simp;done)|assumption|decide|(apply not_not_intro;assumption))only[ZB,zrg,hl.len])
  have:=hQ H (Keeps.refl _ _)
  rw[chkP,if_pos (by omega)] at this
  exact this
 have hc:chkP ls=chkL 0 ls:=by rw[chkP,if_neg (by omega)]
 (try simp(maxSteps:=1000000)(disch:=first|omega|(simp only[Z3];omega)|(simp;done)|assumption|decide|(apply not_not_intro;assumption))only[ZB,zrg,hl.len,z2l])
 refine zl4 (Inv:=fun k vs H'=>∃ i:Nat,k=ls.length - i∧i≤ls.length∧vs=[lv,i64 ls.length,i64 i]∧Keeps [] H H'∧chkL i (ls.drop i)=chkL 0 ls) (n:=ls.length) (by unfold zby;omega)
  ⟨0,by omega,by omega,rfl,Keeps.refl _ _,rfl⟩ ?_
 rintro k vs H' ⟨i,hk,hi,rfl,kk,hi2⟩
 have hl':=hl.keep0 kk
 by_cases h:i < ls.length
 ·rw[zbsa ls i default h,chkL] at hi2
  (try simp(maxSteps:=1000000)(disch:=first|omega|(simp only[Z3];omega)|(simp;done)|assumption|decide|(apply not_not_intro;assumption))only[ZB,zu7,z2j,hl'.addr' (n:=5) rfl,hl'.ldn' (n:=5) rfl _ default,Int.toNat_natCast,z27])
  refine zbdv _ (ls.getD i default) _ fun H2 k2=>?_
  have k02:Keeps [] H H2:=(kk.trans (Keeps.push _ _ _) (fun _ _ h=>h)).trans k2 (fun _ _ h=>h)
  by_cases hw:zvt (ls.getD i default)≠0
  ·rw[if_pos hw] at hi2
   (try simp(maxSteps:=1000000)(disch:=first|omega|(simp only[Z3];omega)|(simp;done)|assumption|decide|(apply not_not_intro;assumption))only[ZB])
   have:=hQ H2 k02
   rw[hc,← hi2] at this
   exact this
  ·rw[if_neg hw] at hi2
   (try simp(maxSteps:=1000000)(disch:=first|omega|(simp only[Z3];omega)|(simp;done)|assumption|decide|(apply not_not_intro;assumption))only[ZB,z2i])
   exact⟨ls.length - (i + 1),by omega,i + 1,rfl,by omega,rfl,k02,hi2⟩
 ·have:i=ls.length:=by omega
  subst this
  rw[List.drop_length,chkL] at hi2
  (try simp(maxSteps:=1000000)(disch:=first|omega|(simp only[Z3];omega)|(simp;done)|assumption|decide|(apply not_not_intro;assumption))only[ZB,zu7,z2k])
  have:=hQ H' kk
  rw[hc,← hi2] at this
  exact this
end Go.AM.Cap
