import Derived.Test.YtjchglndancedaaGreatDoorPnB
import Derived.Test.YtjchglndancedaaGreatDoorAmOpenF
set_option linter.all false
/- ports: which ports may be -/
set_option maxHeartbeats 8000000
namespace Go.AM.Cap
open Go.AM Go.Proofs
structure Port where
 kind:Int
 src:Int
 dst:Int
 typ:Int
 cap:Int
 deriving DecidableEq,Inhabited
def Port.cells (p:Port):List V:=[i64 p.kind,i64 p.src,i64 p.dst,i64 p.typ,i64 p.cap]
instance:Flat Port:=⟨5,Port.cells,fun _=>rfl,fun _=>rfl,by decide⟩
theorem z8z (p:Port):Flat.enc p=[i64 p.kind,i64 p.src,i64 p.dst,i64 p.typ,i64 p.cap]:=rfl
abbrev Port.agg (p:Port):V := .agg [i64 p.kind,i64 p.src,i64 p.dst,i64 p.typ,i64 p.cap].toArray
theorem zbj9 (x:Int):zou [i64 x]=ret (.bool (decide (0≤x∧x < 8))):=zbud fun H=>by
 show wp (z0g (i64 x)) _ H
 (repeat' (first | (simp(maxSteps:=1000000)(disch:=first|omega|(simp only[Z3];omega)|(simp;done)|assumption|decide|(apply not_not_intro;assumption))only[ZB,z0g]) | (refine zk5 (fun _=>?_) (fun _=>?_)) | (refine zp0 (fun _=>?_) (fun _=>?_)) | (refine znl (fun _=>?_) (fun _=>?_)) | (refine zjn (fun _=>?_) (fun _=>?_)) | (refine zsh (fun _=>?_) (fun _=>?_)) | (refine z1t (fun _=>?_) (fun _=>?_)) | (refine zwk (fun _=>?_) (fun _=>?_)) | (refine zp1 (fun _=>?_) (fun _=>?_))))
 all_goals refine⟨?_,by trivial⟩
 all_goals ((try simp only[true_and,and_true,false_and,and_false,true_or,or_true,false_or,or_false]);(try ((repeat' split) <;> (first | rfl | omega | (refine congrArg (Value.int _) ?_;omega) | (refine congrArg Value.bool ?_;apply decide_eq_decide.mpr;omega) | (refine congrArg Value.bool ?_;exact (decide_eq_false (by omega)).symm) | (refine congrArg Value.bool ?_;exact (decide_eq_true (by omega)).symm) | (exfalso;omega) | (simp_all;done) | (refine congrArg Value.bool ?_;apply decide_eq_decide.mpr;simp_all;done)))))
theorem zbme (x:Int):zrl [i64 x]=ret (.bool (decide (0≤x∧x < 8))):=zbud fun H=>by
 show wp (z3r (i64 x)) _ H
 (repeat' (first | (simp(maxSteps:=1000000)(disch:=first|omega|(simp only[Z3];omega)|(simp;done)|assumption|decide|(apply not_not_intro;assumption))only[ZB,z3r]) | (refine zk5 (fun _=>?_) (fun _=>?_)) | (refine zp0 (fun _=>?_) (fun _=>?_)) | (refine znl (fun _=>?_) (fun _=>?_)) | (refine zjn (fun _=>?_) (fun _=>?_)) | (refine zsh (fun _=>?_) (fun _=>?_)) | (refine z1t (fun _=>?_) (fun _=>?_)) | (refine zwk (fun _=>?_) (fun _=>?_)) | (refine zp1 (fun _=>?_) (fun _=>?_))))
 all_goals refine⟨?_,by trivial⟩
 all_goals ((try simp only[true_and,and_true,false_and,and_false,true_or,or_true,false_or,or_false]);(try ((repeat' split) <;> (first | rfl | omega | (refine congrArg (Value.int _) ?_;omega) | (refine congrArg Value.bool ?_;apply decide_eq_decide.mpr;omega) | (refine congrArg Value.bool ?_;exact (decide_eq_false (by omega)).symm) | (refine congrArg Value.bool ?_;exact (decide_eq_true (by omega)).symm) | (exfalso;omega) | (simp_all;done) | (refine congrArg Value.bool ?_;apply decide_eq_decide.mpr;simp_all;done)))))
def zol (p:Port):Int :=
 if p.kind≠1∧p.kind≠2 then 91 else
 if ¬ (0≤p.src∧p.src < 8)∨¬ (0≤p.dst∧p.dst < 8) then 1 else
 if p.src=p.dst then 4 else
 if p.typ < 1∨p.typ > 3 then 40 else
 if p.kind=1∧p.cap≠0∨p.kind=2∧(p.cap < 1∨p.cap > 16) then 1 else 0
theorem zbka (H:Heap) (p:Port) (Q:V→Heap→Prop) (hQ:∀ H',Keeps [] H H'→Q (i64 (zol p)) H'):wp (zs2 [p.agg]) Q H:=by
 show wp (z0h p.agg) Q H
 (repeat' (first | (simp(maxSteps:=1000000)(disch:=first|omega|(simp only[Z3];omega)|(simp;done)|assumption|decide|(apply not_not_intro;assumption))only[ZB,z0h,z6p,z6o,zbj9]) | (refine zk5 (fun _=>?_) (fun _=>?_)) | (refine zp0 (fun _=>?_) (fun _=>?_)) | (refine znl (fun _=>?_) (fun _=>?_)) | (refine zjn (fun _=>?_) (fun _=>?_)) | (refine zsh (fun _=>?_) (fun _=>?_)) | (refine z1t (fun _=>?_) (fun _=>?_)) | (refine zwk (fun _=>?_) (fun _=>?_)) | (refine zp1 (fun _=>?_) (fun _=>?_))))
 all_goals refine q_of (hQ _ (Keeps.push _ _ _)) ?_
 all_goals ((try simp only[zol,true_and,and_true,false_and,and_false,true_or,or_true,false_or,or_false]);(try ((repeat' split) <;> (first | rfl | omega | (refine congrArg (Value.int _) ?_;omega) | (refine congrArg Value.bool ?_;apply decide_eq_decide.mpr;omega) | (refine congrArg Value.bool ?_;exact (decide_eq_false (by omega)).symm) | (refine congrArg Value.bool ?_;exact (decide_eq_true (by omega)).symm) | (exfalso;omega) | (simp_all;done) | (refine congrArg Value.bool ?_;apply decide_eq_decide.mpr;simp_all;done)))))
theorem zbpj (H:Heap) (p:Port) (Q:V→Heap→Prop) (hQ:∀ H',Keeps [] H H'→Q (i64 (zol p)) H'):wp (zzk [p.agg]) Q H:=by
 show wp (z7m p.agg) Q H
 (repeat' (first | (simp(maxSteps:=1000000)(disch:=first|omega|(simp only[Z3];omega)|(simp;done)|assumption|decide|(apply not_not_intro;assumption))only[ZB,z7m,zbe7,zbme]) | (refine zk5 (fun _=>?_) (fun _=>?_)) | (refine zp0 (fun _=>?_) (fun _=>?_)) | (refine znl (fun _=>?_) (fun _=>?_)) | (refine zjn (fun _=>?_) (fun _=>?_)) | (refine zsh (fun _=>?_) (fun _=>?_)) | (refine z1t (fun _=>?_) (fun _=>?_)) | (refine zwk (fun _=>?_) (fun _=>?_)) | (refine zp1 (fun _=>?_) (fun _=>?_))))
 all_goals refine q_of (hQ _ (Keeps.push _ _ _)) ?_
 all_goals ((try simp only[zol,true_and,and_true,false_and,and_false,true_or,or_true,false_or,or_false]);(try ((repeat' split) <;> (first | rfl | omega | (refine congrArg (Value.int _) ?_;omega) | (refine congrArg Value.bool ?_;apply decide_eq_decide.mpr;omega) | (refine congrArg Value.bool ?_;exact (decide_eq_false (by omega)).symm) | (refine congrArg Value.bool ?_;exact (decide_eq_true (by omega)).symm) | (exfalso;omega) | (simp_all;done) | (refine congrArg Value.bool ?_;apply decide_eq_decide.mpr;simp_all;done)))))
end Go.AM.Cap

/- ports: Check -/
set_option maxHeartbeats 8000000
namespace Go.AM.Cap
open Go.AM Go.Proofs
def chkL:Nat→List Port→Int × Int
 | _,[]=>(0,0)
 | i,p :: ps=>if zol p≠0 then ((i:Int),zol p) else chkL (i + 1) ps
def chkP (ls:List Port):Int × Int:=if ls.length > 16 then (-1,2) else chkL 0 ls
theorem zbsj {α:Type} (l:List α) (i:Nat) (d:α) (h:i < l.length):l.drop i=l.getD i d :: l.drop (i + 1):=by
 rw[List.getD_eq_getElem?_getD,List.getElem?_eq_getElem h];exact List.drop_eq_getElem_cons h
theorem z80 (H:Heap) (lv:V) (ls:List Port) (hl:Sl H lv ls) (Q:V→Heap→Prop) (hQ:∀ H',Keeps [] H H'→Q (.tuple #[i64 (chkP ls).1,i64 (chkP ls).2]) H'):wp (zk6 [lv]) Q H:=by
 show wp (zs3 lv) Q H
 by_cases h16:(ls.length:Int) > 16
 ·(try simp(maxSteps:=1000000)(disch:=first|omega|(simp only[Z3];omega)|(simp;done)|assumption|decide|(apply not_not_intro;assumption))only[ZB,zs3,hl.len])
  have:=hQ H (Keeps.refl _ _)
  rw[chkP,if_pos (by omega)] at this
  exact this
 have hc:chkP ls=chkL 0 ls:=by rw[chkP,if_neg (by omega)]
 (try simp(maxSteps:=1000000)(disch:=first|omega|(simp only[Z3];omega)|(simp;done)|assumption|decide|(apply not_not_intro;assumption))only[ZB,zs3,hl.len,z6t])
 refine zfd (Inv:=fun k vs H'=>∃ i:Nat,k=ls.length - i∧i≤ls.length∧vs=[lv,i64 ls.length,i64 i]∧Keeps [] H H'∧chkL i (ls.drop i)=chkL 0 ls) (n:=ls.length) (by unfold zbs;omega)
  ⟨0,by omega,by omega,rfl,Keeps.refl _ _,rfl⟩ ?_
 rintro k vs H' ⟨i,hk,hi,rfl,kk,hi2⟩
 have hl':=hl.keep0 kk
 by_cases h:i < ls.length
 ·rw[zbsj ls i default h,chkL] at hi2
  (try simp(maxSteps:=1000000)(disch:=first|omega|(simp only[Z3];omega)|(simp;done)|assumption|decide|(apply not_not_intro;assumption))only[ZB,zxj,z6r,hl'.addr' (n:=5) rfl,hl'.ldn' (n:=5) rfl _ default,Int.toNat_natCast,z8z])
  refine zbka _ (ls.getD i default) _ fun H2 k2=>?_
  have k02:Keeps [] H H2:=(kk.trans (Keeps.push _ _ _) (fun _ _ h=>h)).trans k2 (fun _ _ h=>h)
  by_cases hw:zol (ls.getD i default)≠0
  ·rw[if_pos hw] at hi2
   (try simp(maxSteps:=1000000)(disch:=first|omega|(simp only[Z3];omega)|(simp;done)|assumption|decide|(apply not_not_intro;assumption))only[ZB])
   have:=hQ H2 k02
   rw[hc,← hi2] at this
   exact this
  ·rw[if_neg hw] at hi2
   (try simp(maxSteps:=1000000)(disch:=first|omega|(simp only[Z3];omega)|(simp;done)|assumption|decide|(apply not_not_intro;assumption))only[ZB,z6q])
   exact⟨ls.length - (i + 1),by omega,i + 1,rfl,by omega,rfl,k02,hi2⟩
 ·have:i=ls.length:=by omega
  subst this
  rw[List.drop_length,chkL] at hi2
  (try simp(maxSteps:=1000000)(disch:=first|omega|(simp only[Z3];omega)|(simp;done)|assumption|decide|(apply not_not_intro;assumption))only[ZB,zxj,z6s])
  have:=hQ H' kk
  rw[hc,← hi2] at this
  exact this
theorem z81 (H:Heap) (lv:V) (ls:List Port) (hl:Sl H lv ls) (Q:V→Heap→Prop) (hQ:∀ H',Keeps [] H H'→Q (.tuple #[i64 (chkP ls).1,i64 (chkP ls).2]) H'):wp (zk9 [lv]) Q H:=by
 show wp (ztd lv) Q H
 by_cases h16:(ls.length:Int) > 16
 ·(try simp(maxSteps:=1000000)(disch:=first|omega|(simp only[Z3];omega)|(simp;done)|assumption|decide|(apply not_not_intro;assumption))only[ZB,ztd,hl.len])
  have:=hQ H (Keeps.refl _ _)
  rw[chkP,if_pos (by omega)] at this
  exact this
 have hc:chkP ls=chkL 0 ls:=by rw[chkP,if_neg (by omega)]
 (try simp(maxSteps:=1000000)(disch:=first|omega|(simp only[Z3];omega)|(simp;done)|assumption|decide|(apply not_not_intro;assumption))only[ZB,ztd,hl.len,z7q])
 refine zfd (Inv:=fun k vs H'=>∃ i:Nat,k=ls.length - i∧i≤ls.length∧vs=[lv,i64 i]∧Keeps [] H H'∧chkL i (ls.drop i)=chkL 0 ls) (n:=ls.length) (by unfold zbs;omega)
  ⟨0,by omega,by omega,rfl,Keeps.refl _ _,rfl⟩ ?_
 rintro k vs H' ⟨i,hk,hi,rfl,kk,hi2⟩
 have hl':=hl.keep0 kk
 by_cases h:i < ls.length
 ·rw[zbsj ls i default h,chkL] at hi2
  (try simp(maxSteps:=1000000)(disch:=first|omega|(simp only[Z3];omega)|(simp;done)|assumption|decide|(apply not_not_intro;assumption))only[ZB,zyb,hl'.len,z7o,hl'.addr' (n:=5) rfl,hl'.ldn' (n:=5) rfl _ default,Int.toNat_natCast,z8z])
  refine zbpj _ (ls.getD i default) _ fun H2 k2=>?_
  have k02:Keeps [] H H2:=kk.trans k2 (fun _ _ h=>h)
  by_cases hw:zol (ls.getD i default)≠0
  ·rw[if_pos hw] at hi2
   (try simp(maxSteps:=1000000)(disch:=first|omega|(simp only[Z3];omega)|(simp;done)|assumption|decide|(apply not_not_intro;assumption))only[ZB])
   have:=hQ H2 k02
   rw[hc,← hi2] at this
   exact this
  ·rw[if_neg hw] at hi2
   (try simp(maxSteps:=1000000)(disch:=first|omega|(simp only[Z3];omega)|(simp;done)|assumption|decide|(apply not_not_intro;assumption))only[ZB,z7n])
   exact⟨ls.length - (i + 1),by omega,i + 1,rfl,by omega,rfl,k02,hi2⟩
 ·have:i=ls.length:=by omega
  subst this
  rw[List.drop_length,chkL] at hi2
  (try simp(maxSteps:=1000000)(disch:=first|omega|(simp only[Z3];omega)|(simp;done)|assumption|decide|(apply not_not_intro;assumption))only[ZB,zyb,hl'.len,z7p])
  have:=hQ H' kk
  rw[hc,← hi2] at this
  exact this
end Go.AM.Cap
