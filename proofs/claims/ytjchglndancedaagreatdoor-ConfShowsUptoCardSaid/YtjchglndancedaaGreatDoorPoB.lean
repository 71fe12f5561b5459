import Derived.Test.YtjchglndancedaaGreatDoorPnB
import Derived.Test.YtjchglndancedaaGreatDoorAmIn
set_option linter.all false
/- ports: which ports may be -/
set_option maxHeartbeats 8000000
namespace Go.AM.Cap
open Go.AM Go.Proofs
structure Port where
 kind:Int
 src:Int
 dst:Int
 typ:Int
 cap:Int
 deriving DecidableEq,Inhabited
def Port.cells (p:Port):List V:=[i64 p.kind,i64 p.src,i64 p.dst,i64 p.typ,i64 p.cap]
instance:Flat Port:=⟨5,Port.cells,fun _=>rfl,fun _=>rfl,by decide⟩
theorem zxn (p:Port):Flat.enc p=[i64 p.kind,i64 p.src,i64 p.dst,i64 p.typ,i64 p.cap]:=rfl
abbrev Port.agg (p:Port):V := .agg [i64 p.kind,i64 p.src,i64 p.dst,i64 p.typ,i64 p.cap].toArray
theorem zbjp (x:Int):zot [i64 x]=ret (.bool (decide (0≤x∧x < 8))):=zbtx fun H=>by
 show wp (zzf (i64 x)) _ H
 (repeat' (first | (simp (maxSteps:=999999) (disch:=try exact ZD) only[ZB,zzf]) | (refine zkx (fun _=>?_) (fun _=>?_)) | (refine zpx (fun _=>?_) (fun _=>?_)) | (refine zm8 (fun _=>?_) (fun _=>?_)) | (refine zi6 (fun _=>?_) (fun _=>?_)) | (refine zsq (fun _=>?_) (fun _=>?_)) | (refine z0d (fun _=>?_) (fun _=>?_)) | (refine zvr (fun _=>?_) (fun _=>?_)) | (refine zpy (fun _=>?_) (fun _=>?_))))
 all_goals refine⟨?_,by trivial⟩
 all_goals ((try simp only[true_and,and_true,false_and,and_false,true_or,or_true,false_or,or_false]);(try ((repeat' split) <;> (first | rfl | omega | (refine congrArg (Value.int _) ?_;omega) | (refine congrArg Value.bool ?_;apply decide_eq_decide.mpr;omega) | (refine congrArg Value.bool ?_;exact (decide_eq_false (by omega)).symm) | (refine congrArg Value.bool ?_;exact (decide_eq_true (by omega)).symm) | (exfalso;omega) | (simp_all;done) | (refine congrArg Value.bool ?_;apply decide_eq_decide.mpr;simp_all;done)))))
theorem zblr (x:Int):zru [i64 x]=ret (.bool (decide (0≤x∧x < 8))):=zbtx fun H=>by
 show wp (z17 (i64 x)) _ H
 (repeat' (first | (simp (maxSteps:=999999) (disch:=try exact ZD) only[ZB,z17]) | (refine zkx (fun _=>?_) (fun _=>?_)) | (refine zpx (fun _=>?_) (fun _=>?_)) | (refine zm8 (fun _=>?_) (fun _=>?_)) | (refine zi6 (fun _=>?_) (fun _=>?_)) | (refine zsq (fun _=>?_) (fun _=>?_)) | (refine z0d (fun _=>?_) (fun _=>?_)) | (refine zvr (fun _=>?_) (fun _=>?_)) | (refine zpy (fun _=>?_) (fun _=>?_))))
 all_goals refine⟨?_,by trivial⟩
 all_goals ((try simp only[true_and,and_true,false_and,and_false,true_or,or_true,false_or,or_false]);(try ((repeat' split) <;> (first | rfl | omega | (refine congrArg (Value.int _) ?_;omega) | (refine congrArg Value.bool ?_;apply decide_eq_decide.mpr;omega) | (refine congrArg Value.bool ?_;exact (decide_eq_false (by omega)).symm) | (refine congrArg Value.bool ?_;exact (decide_eq_true (by omega)).symm) | (exfalso;omega) | (simp_all;done) | (refine congrArg Value.bool ?_;apply decide_eq_decide.mpr;simp_all;done)))))
def zlf (p:Port):Int :=
 if p.kind≠1∧p.kind≠2 then 91 else
 if ¬ (0≤p.src∧p.src < 8)∨¬ (0≤p.dst∧p.dst < 8) then 1 else
 if p.src=p.dst then 4 else
 if p.typ < 1∨p.typ > 3 then 40 else
 if p.kind=1∧p.cap≠0∨p.kind=2∧(p.cap < 1∨p.cap > 16) then 1 else 0
theorem zbjq (H:Heap) (p:Port) (Q:V→Heap→Prop) (hQ:∀ H',Keeps [] H H'→Q (i64 (zlf p)) H'):wp (ztd [p.agg]) Q H:=by
 show wp (zzg p.agg) Q H
 (repeat' (first | (simp (maxSteps:=999999) (disch:=try exact ZD) only[ZB,zzg,z5a,z49,zbjp]) | (refine zkx (fun _=>?_) (fun _=>?_)) | (refine zpx (fun _=>?_) (fun _=>?_)) | (refine zm8 (fun _=>?_) (fun _=>?_)) | (refine zi6 (fun _=>?_) (fun _=>?_)) | (refine zsq (fun _=>?_) (fun _=>?_)) | (refine z0d (fun _=>?_) (fun _=>?_)) | (refine zvr (fun _=>?_) (fun _=>?_)) | (refine zpy (fun _=>?_) (fun _=>?_))))
 all_goals refine q_of (hQ _ (Keeps.push _ _ _)) ?_
 all_goals ((try simp only[zlf,true_and,and_true,false_and,and_false,true_or,or_true,false_or,or_false]);(try ((repeat' split) <;> (first | rfl | omega | (refine congrArg (Value.int _) ?_;omega) | (refine congrArg Value.bool ?_;apply decide_eq_decide.mpr;omega) | (refine congrArg Value.bool ?_;exact (decide_eq_false (by omega)).symm) | (refine congrArg Value.bool ?_;exact (decide_eq_true (by omega)).symm) | (exfalso;omega) | (simp_all;done) | (refine congrArg Value.bool ?_;apply decide_eq_decide.mpr;simp_all;done)))))
theorem zboo (H:Heap) (p:Port) (Q:V→Heap→Prop) (hQ:∀ H',Keeps [] H H'→Q (i64 (zlf p)) H'):wp (zyi [p.agg]) Q H:=by
 show wp (z52 p.agg) Q H
 (repeat' (first | (simp (maxSteps:=999999) (disch:=try exact ZD) only[ZB,z52,zbde,zblr]) | (refine zkx (fun _=>?_) (fun _=>?_)) | (refine zpx (fun _=>?_) (fun _=>?_)) | (refine zm8 (fun _=>?_) (fun _=>?_)) | (refine zi6 (fun _=>?_) (fun _=>?_)) | (refine zsq (fun _=>?_) (fun _=>?_)) | (refine z0d (fun _=>?_) (fun _=>?_)) | (refine zvr (fun _=>?_) (fun _=>?_)) | (refine zpy (fun _=>?_) (fun _=>?_))))
 all_goals refine q_of (hQ _ (Keeps.push _ _ _)) ?_
 all_goals ((try simp only[zlf,true_and,and_true,false_and,and_false,true_or,or_true,false_or,or_false]);(try ((repeat' split) <;> (first | rfl | omega | (refine congrArg (Value.int _) ?_;omega) | (refine congrArg Value.bool ?_;apply decide_eq_decide.mpr;omega) | (refine congrArg Value.bool ?_;exact (decide_eq_false (by omega)).symm) | (refine congrArg Value.bool ?_;exact (decide_eq_true (by omega)).symm) | (exfalso;omega) | (simp_all;done) | (refine congrArg Value.bool ?_;apply decide_eq_decide.mpr;simp_all;done)))))
end Go.AM.Cap

/- ports: Check -/
set_option maxHeartbeats 8000000
namespace Go.AM.Cap
open Go.AM Go.Proofs
def z8n:Nat→List Port→Int × Int
 | _,[]=>(0,0)
 | i,p :: ps=>if zlf p≠0 then ((i:Int),zlf p) else z8n (i + 1) ps
def chkP (ls:List Port):Int × Int:=if ls.length > 16 then (-1,2) else z8n 0 ls
theorem zbrt {α:Type} (l:List α) (i:Nat) (d:α) (h:i < l.length):l.drop i=l.getD i d :: l.drop (i + 1):=by
 rw[List.getD_eq_getElem?_getD,List.getElem?_eq_getElem h];exact List.drop_eq_getElem_cons h
theorem z7b (H:Heap) (lv:V) (ls:List Port) (hl:Sl H lv ls) (Q:V→Heap→Prop) (hQ:∀ H',Keeps [] H H'→Q (.tuple #[i64 (chkP ls).1,i64 (chkP ls).2]) H'):wp (zky [lv]) Q H:=by
 show wp (zte lv) Q H
 by_cases h16:(ls.length:Int) > 16
 ·(try simp (maxSteps:=999999) (disch:=try exact ZD) only[ZB,zte,hl.len])
  have:=hQ H (Keeps.refl _ _)
  rw[chkP,if_pos (by omega)] at this
  exact this
 have hc:chkP ls=z8n 0 ls:=by rw[chkP,if_neg (by omega)]
 (try simp (maxSteps:=999999) (disch:=try exact ZD) only[ZB,zte,hl.len,z5e])
 refine zd6 (Inv:=fun k vs H'=>∃ i:Nat,k=ls.length - i∧i≤ls.length∧vs=[lv,i64 ls.length,i64 i]∧Keeps [] H H'∧z8n i (ls.drop i)=z8n 0 ls) (n:=ls.length) (by unfold zbm;omega)
  ⟨0,by omega,by omega,rfl,Keeps.refl _ _,rfl⟩ ?_
 rintro k vs H' ⟨i,hk,hi,rfl,kk,hi2⟩
 have hl':=hl.keep0 kk
 by_cases h:i < ls.length
 ·rw[zbrt ls i default h,z8n] at hi2
  (try simp (maxSteps:=999999) (disch:=try exact ZD) only[ZB,zwl,z5c,hl'.addr' (n:=5) rfl,hl'.ldn' (n:=5) rfl _ default,Int.toNat_natCast,zxn])
  refine zbjq _ (ls.getD i default) _ fun H2 k2=>?_
  have k02:Keeps [] H H2:=(kk.trans (Keeps.push _ _ _) (fun _ _ h=>h)).trans k2 (fun _ _ h=>h)
  by_cases hw:zlf (ls.getD i default)≠0
  ·rw[if_pos hw] at hi2
   (try simp (maxSteps:=999999) (disch:=try exact ZD) only[ZB])
   have:=hQ H2 k02
   rw[hc,← hi2] at this
   exact this
  ·rw[if_neg hw] at hi2
   (try simp (maxSteps:=999999) (disch:=try exact ZD) only[ZB,z5b])
   exact⟨ls.length - (i + 1),by omega,i + 1,rfl,by omega,rfl,k02,hi2⟩
 ·have:i=ls.length:=by omega
  subst this
  rw[List.drop_length,z8n] at hi2
  (try simp (maxSteps:=999999) (disch:=try exact ZD) only[ZB,zwl,z5d])
  have:=hQ H' kk
  rw[hc,← hi2] at this
  exact this
theorem z7c (H:Heap) (lv:V) (ls:List Port) (hl:Sl H lv ls) (Q:V→Heap→Prop) (hQ:∀ H',Keeps [] H H'→Q (.tuple #[i64 (chkP ls).1,i64 (chkP ls).2]) H'):wp (zk1 [lv]) Q H:=by
 show wp (ztj lv) Q H
 by_cases h16:(ls.length:Int) > 16
 ·(try simp (maxSteps:=999999) (disch:=try exact ZD) only[ZB,ztj,hl.len])
  have:=hQ H (Keeps.refl _ _)
  rw[chkP,if_pos (by omega)] at this
  exact this
 have hc:chkP ls=z8n 0 ls:=by rw[chkP,if_neg (by omega)]
 (try simp (maxSteps:=999999) (disch:=try exact ZD) only[ZB,ztj,hl.len,z57])
 refine zd6 (Inv:=fun k vs H'=>∃ i:Nat,k=ls.length - i∧i≤ls.length∧vs=[lv,i64 i]∧Keeps [] H H'∧z8n i (ls.drop i)=z8n 0 ls) (n:=ls.length) (by unfold zbm;omega)
  ⟨0,by omega,by omega,rfl,Keeps.refl _ _,rfl⟩ ?_
 rintro k vs H' ⟨i,hk,hi,rfl,kk,hi2⟩
 have hl':=hl.keep0 kk
 by_cases h:i < ls.length
 ·rw[zbrt ls i default h,z8n] at hi2
  (try simp (maxSteps:=999999) (disch:=try exact ZD) only[ZB,zw4,hl'.len,z55,hl'.addr' (n:=5) rfl,hl'.ldn' (n:=5) rfl _ default,Int.toNat_natCast,zxn])
  refine zboo _ (ls.getD i default) _ fun H2 k2=>?_
  have k02:Keeps [] H H2:=kk.trans k2 (fun _ _ h=>h)
  by_cases hw:zlf (ls.getD i default)≠0
  ·rw[if_pos hw] at hi2
   (try simp (maxSteps:=999999) (disch:=try exact ZD) only[ZB])
   have:=hQ H2 k02
   rw[hc,← hi2] at this
   exact this
  ·rw[if_neg hw] at hi2
   (try simp (maxSteps:=999999) (disch:=try exact ZD) only[ZB,z54])
   exact⟨ls.length - (i + 1),by omega,i + 1,rfl,by omega,rfl,k02,hi2⟩
 ·have:i=ls.length:=by omega
  subst this
  rw[List.drop_length,z8n] at hi2
  (try simp (maxSteps:=999999) (disch:=try exact ZD) only[ZB,zw4,hl'.len,z56])
  have:=hQ H' kk
  rw[hc,← hi2] at this
  exact this
end Go.AM.Cap
