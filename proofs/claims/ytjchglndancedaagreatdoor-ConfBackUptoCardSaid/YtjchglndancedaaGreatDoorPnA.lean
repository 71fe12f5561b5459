import Derived.Test.YtjchglndancedaaGreatDoorFun2
import Derived.Test.YtjchglndancedaaGreatDoorAmIn
set_option linter.all false
/- num: which values fit -/
namespace Go.AM.Cap
open Go.AM Go.Proofs
def fits (t n:Int):Prop:=(t=1∧(n=0∨n=1))∨(t=2 ∧ -32768≤n∧n≤32767)∨((t=3∨t=4) ∧ -2147483648≤n∧n≤2147483647)
instance (t n:Int):Decidable (fits t n):=by unfold fits;exact inferInstance
end Go.AM.Cap

/- points: the things; Check -/
set_option maxHeartbeats 8000000
namespace Go.AM.Cap
open Go.AM Go.Proofs
structure Pt where
 typ:Int
 out:Bool
 deriving DecidableEq,Inhabited
def Pt.cells (p:Pt):List V:=[i64 p.typ,.bool p.out]
instance:Flat Pt:=⟨2,Pt.cells,fun _=>rfl,fun _=>rfl,by decide⟩
theorem zbh6 (p:Pt):Flat.enc p=[i64 p.typ,.bool p.out]:=rfl
abbrev Pt.agg (p:Pt):V := .agg [i64 p.typ,.bool p.out].toArray
structure Gr where
 part:Int
 point:Int
 write:Bool
 deriving DecidableEq,Inhabited
def Gr.cells (p:Gr):List V:=[i64 p.part,i64 p.point,.bool p.write]
instance:Flat Gr:=⟨3,Gr.cells,fun _=>rfl,fun _=>rfl,by decide⟩
theorem zvs (p:Gr):Flat.enc p=[i64 p.part,i64 p.point,.bool p.write]:=rfl
abbrev Gr.agg (p:Gr):V := .agg [i64 p.part,i64 p.point,.bool p.write].toArray
instance:KeyE Gr:=⟨.agg [.i,.i,.b],Gr.agg,fun a b=>by
 simp only[zua,zho,zm8,eqK,if_true,zbbx]
 obtain⟨a1,a2,a3⟩:=a
 obtain⟨b1,b2,b3⟩:=b
 by_cases h:a1=b1
 ·by_cases h2:a2=b2
  ·by_cases h3:a3=b3
   ·subst h;subst h2;subst h3;simp
   ·rw[decide_eq_true h,decide_eq_true h2,decide_eq_false (show ¬ Gr.mk a1 a2 a3=Gr.mk b1 b2 b3 by simp[h3])]
    have:(a3 == b3)=false:=by simpa using h3
    rw[this]
  ·rw[decide_eq_true h,decide_eq_false h2,decide_eq_false (show ¬ Gr.mk a1 a2 a3=Gr.mk b1 b2 b3 by simp[h2])]
 ·rw[decide_eq_false h,decide_eq_false (show ¬ Gr.mk a1 a2 a3=Gr.mk b1 b2 b3 by simp[h])],fun _=>rfl,fun _=>rfl⟩
theorem lkGB (rw_:Bool) (es:List (Gr × Bool)) (a b:Int) (c:Bool):zwm (some (.map rw_ (es.map zkt))) (.agg [.i,.i,.b]) (.bool false) false (.agg [i64 a,i64 b,.bool c].toArray)=some (.bool ((znb es ⟨a,b,c⟩).getD false)):=by
 have:=z32 rw_ es (.bool false) rfl ⟨a,b,c⟩
 rw[show KeyE.kk Gr = .agg [.i,.i,.b] from rfl,show (KeyE.enc (⟨a,b,c⟩:Gr):V) = .agg [i64 a,i64 b,.bool c].toArray from rfl] at this
 rw[this]
 cases znb es ⟨a,b,c⟩ <;> rfl
theorem lkIB (rw_:Bool) (es:List (Int × Bool)) (a:Int):zwm (some (.map rw_ (es.map zkt))) (.one .i) (.bool false) false (i64 a)=some (.bool ((znb es a).getD false)):=by
 have:=z32 rw_ es (.bool false) rfl a
 rw[show KeyE.kk Int = .one .i from rfl,show (KeyE.enc a:V)=i64 a from rfl] at this
 rw[this]
 cases znb es a <;> rfl
theorem lkPB (rw_:Bool) (es:List ((Int × Int) × Bool)) (a b:Int):zwm (some (.map rw_ (es.map zkt))) (.agg [.i,.i]) (.bool false) false (.agg [i64 a,i64 b].toArray)=some (.bool ((znb es (a,b)).getD false)):=by
 have:=z32 rw_ es (.bool false) rfl (a,b)
 rw[show KeyE.kk (Int × Int) = .agg [.i,.i] from rfl,show (KeyE.enc (a,b):V) = .agg [i64 a,i64 b].toArray from rfl] at this
 rw[this]
 cases znb es (a,b) <;> rfl
theorem stGB (es:List (Gr × Bool)) (a b:Int) (c v:Bool) (K:Option Blk→Prop):setG (some (.map true (es.map zkt))) (.agg [.i,.i,.b]) (.agg [i64 a,i64 b,.bool c].toArray) (.bool v) K↔K (some (.map true ((zji es ⟨a,b,c⟩ v).map zkt))):=z70 es (⟨a,b,c⟩:Gr) v K
theorem stIB (es:List (Int × Bool)) (a:Int) (v:Bool) (K:Option Blk→Prop):setG (some (.map true (es.map zkt))) (.one .i) (i64 a) (.bool v) K↔K (some (.map true ((zji es a v).map zkt))):=z70 es a v K
theorem stPB (es:List ((Int × Int) × Bool)) (a b:Int) (v:Bool) (K:Option Blk→Prop):setG (some (.map true (es.map zkt))) (.agg [.i,.i]) (.agg [i64 a,i64 b].toArray) (.bool v) K↔K (some (.map true ((zji es (a,b) v).map zkt))):=z70 es (a,b) v K
theorem zbbm (x:Int):zpj [i64 x]=ret (.bool (decide (0≤x∧x < 8))):=zbr3 fun H=>by
 show wp (zu6 (i64 x)) _ H
 (repeat' (first | (simp(maxSteps:=1000000)(disch:=first|omega|(simp only[Z3];omega)|(simp;done)|assumption|decide|(apply not_not_intro;assumption))only[ZB,zu6]) | (refine zrd (fun _=>?_) (fun _=>?_)) | (refine zwk (fun _=>?_) (fun _=>?_)) | (refine zti (fun _=>?_) (fun _=>?_)) | (refine zo3 (fun _=>?_) (fun _=>?_)) | (refine zzj (fun _=>?_) (fun _=>?_)) | (refine z7y (fun _=>?_) (fun _=>?_)) | (refine z30 (fun _=>?_) (fun _=>?_)) | (refine zwl (fun _=>?_) (fun _=>?_))))
 all_goals refine⟨?_,by trivial⟩
 all_goals ((try simp only[true_and,and_true,false_and,and_false,true_or,or_true,false_or,or_false]);(try ((repeat' split) <;> (first | rfl | omega | (refine congrArg (Value.int _) ?_;omega) | (refine congrArg Value.bool ?_;apply decide_eq_decide.mpr;omega) | (refine congrArg Value.bool ?_;exact (decide_eq_false (by omega)).symm) | (refine congrArg Value.bool ?_;exact (decide_eq_true (by omega)).symm) | (exfalso;omega) | (simp_all;done) | (refine congrArg Value.bool ?_;apply decide_eq_decide.mpr;simp_all;done)))))
def z62 (p:Pt):Prop:=p.typ < 1∨p.typ > 3
instance (p:Pt):Decidable (z62 p):=by unfold z62;exact inferInstance
theorem z8v (H:Heap) (p:Pt) (Q:V→Heap→Prop) (hQ:∀ H',Keeps [] H H'→Q (.bool (decide (z62 p))) H'):wp (zg6 [p.agg]) Q H:=by
 show wp (zq1 p.agg) Q H
 (repeat' (first | (simp(maxSteps:=1000000)(disch:=first|omega|(simp only[Z3];omega)|(simp;done)|assumption|decide|(apply not_not_intro;assumption))only[ZB,zq1]) | (refine zrd (fun _=>?_) (fun _=>?_)) | (refine zwk (fun _=>?_) (fun _=>?_)) | (refine zti (fun _=>?_) (fun _=>?_)) | (refine zo3 (fun _=>?_) (fun _=>?_)) | (refine zzj (fun _=>?_) (fun _=>?_)) | (refine z7y (fun _=>?_) (fun _=>?_)) | (refine z30 (fun _=>?_) (fun _=>?_)) | (refine zwl (fun _=>?_) (fun _=>?_))))
 all_goals refine q_of (hQ _ (Keeps.push _ _ _)) ?_
 all_goals ((try simp only[z62,true_and,and_true,false_and,and_false,true_or,or_true,false_or,or_false]);(try ((repeat' split) <;> (first | rfl | omega | (refine congrArg (Value.int _) ?_;omega) | (refine congrArg Value.bool ?_;apply decide_eq_decide.mpr;omega) | (refine congrArg Value.bool ?_;exact (decide_eq_false (by omega)).symm) | (refine congrArg Value.bool ?_;exact (decide_eq_true (by omega)).symm) | (exfalso;omega) | (simp_all;done) | (refine congrArg Value.bool ?_;apply decide_eq_decide.mpr;simp_all;done)))))
abbrev SC:zu:=ovr [(zcf,zg6)] noC
theorem zbki (H:Heap) (lv:V) (ls:List Pt) (hl:Sl H lv ls) (hn:ls.length≤1000000) (Q:V→Heap→Prop) (hQ:∀ H',Keeps [] H H'→Q (.bool (decide (∃ p∈ls,z62 p))) H') :
  wp (zbs SC [lv,.func (.func zcf) #[] #[]]) Q H:=by
 show wp (zcr SC lv (.func (.func zcf) #[] #[])) Q H
 simp only[zcr,z6]
 show wp (zc1 SC lv (.func (.func zcf) #[] #[])) _ H
 (try simp(maxSteps:=1000000)(disch:=first|omega|(simp only[Z3];omega)|(simp;done)|assumption|decide|(apply not_not_intro;assumption))only[ZB,zc1,hl.len])
 refine zl4 (Inv:=fun k vs H'=>∃ i:Nat,k=ls.length - i∧i≤ls.length∧vs=[lv,.func (.func zcf) #[] #[],i64 ls.length,i64 i]∧Keeps [] H H'∧∀ p∈ls.take i,¬ z62 p) (n:=ls.length) (by unfold zby;omega)
  ⟨0,by omega,by omega,rfl,Keeps.refl _ _,by simp⟩ ?_
 rintro k vs H' ⟨i,hk,hi,rfl,kk,hi2⟩
 have hl':=hl.keep0 kk
 by_cases h:i < ls.length
 ·have hcall:∀ x,zmm (ovr [] SC) (.func (.func zcf) #[] #[]) [x]=zg6 [x]:=fun _=>rfl
  (try simp(maxSteps:=1000000)(disch:=first|omega|(simp only[Z3];omega)|(simp;done)|assumption|decide|(apply not_not_intro;assumption))only[ZB,zcw,zex,hl'.addr' (n:=2) rfl,hl'.ldn' (n:=2) rfl _ default,Int.toNat_natCast,zbh6,hcall])
  refine z8v _ (ls.getD i default) _ fun H2 k2=>?_
  have k02:Keeps [] H H2:=kk.trans k2 (fun _ _ h=>h)
  have hmem:ls.getD i default∈ls:=by rw[List.getD_eq_getElem?_getD,List.getElem?_eq_getElem h];exact List.getElem_mem _
  by_cases hb:z62 (ls.getD i default)
  ·(try simp(maxSteps:=1000000)(disch:=first|omega|(simp only[Z3];omega)|(simp;done)|assumption|decide|(apply not_not_intro;assumption))only[ZB])
   have:(∃ p∈ls,z62 p):=⟨_,hmem,hb⟩
   have q:=hQ H2 k02
   rw[decide_eq_true this] at q
   first | exact q | (rw[decide_eq_true (by omega)];exact q)
  ·(try simp(maxSteps:=1000000)(disch:=first|omega|(simp only[Z3];omega)|(simp;done)|assumption|decide|(apply not_not_intro;assumption))only[ZB,zew])
   refine⟨ls.length - (i + 1),by omega,i + 1,rfl,by omega,rfl,k02,fun p hp=>?_⟩
   rw[List.take_succ] at hp
   rcases List.mem_append.1 hp with q | q
   ·exact hi2 p q
   ·rw[List.getElem?_eq_getElem h] at q
    simp at q;subst q
    rw[List.getD_eq_getElem?_getD,List.getElem?_eq_getElem h] at hb;exact hb
 ·have:i=ls.length:=by omega
  subst this
  rw[List.take_length] at hi2
  (try simp(maxSteps:=1000000)(disch:=first|omega|(simp only[Z3];omega)|(simp;done)|assumption|decide|(apply not_not_intro;assumption))only[ZB,zcw,zey])
  have q:=hQ H' kk
  rw[decide_eq_false (by rintro⟨p,hp,hb⟩;exact hi2 p hp hb)] at q
  first | exact q | (rw[decide_eq_false (by omega)];exact q)
end Go.AM.Cap
