import Derived.Test.YtjchglndancedaaGreatDoorCgT
import Derived.Test.YtjchglndancedaaGreatDoorAmOpenF
set_option linter.all false
/- conf (after PnS, points): the document's bank -/
set_option maxHeartbeats 8000000
namespace Go.AM.Cap
open Go.AM Go.Proofs
structure Stg where
 part:Int
 point:Int
 n:Int
 deriving DecidableEq,Inhabited
instance:Flat Stg:=⟨3,fun s=>[i64 s.part,i64 s.point,i64 s.n],fun _=>rfl,fun _=>rfl,by decide⟩
structure Rk where
 ls:List Pt
 gs:List Gr
 vs:List Int
 fb:List Bool
 tv:List Int
 ss:List Stg
structure RL where
 p:Nat
 lv:V
 gv:V
 va:Nat
 fa:Nat
 ta:Nat
 sv:V
def RL.wr (x:RL):List Nat:=[x.p,x.va,x.fa,x.ta]
def RL.foot (x:RL):List Nat:=x.p :: x.va :: x.fa :: x.ta :: (vb x.lv ++ (vb x.gv ++ vb x.sv))
structure RbR (H:Heap) (x:RL) (R:Rk):Prop where
 obj:H.get x.p=some (.cells true [x.lv,x.gv,slc x.va 0 1 R.ls.length R.ls.length,slc x.fa 0 1 R.ls.length R.ls.length,slc x.ta 0 1 R.ls.length R.ls.length,x.sv])
 pts:Sl H x.lv R.ls
 grs:Sl H x.gv R.gs
 vs:H.get x.va=some (.cells true (zbm R.vs))
 fb:H.get x.fa=some (.cells true (zbm R.fb))
 tv:H.get x.ta=some (.cells true (zbm R.tv))
 ss:Sl H x.sv R.ss
 lv:R.vs.length=R.ls.length
 lf:R.fb.length=R.ls.length
 lt:R.tv.length=R.ls.length
 small:R.ls.length≤64
 gsm:R.gs.length≤300000
 ssm:R.ss.length≤1000
 rs:∀ e∈R.ss,0≤e.point∧e.point < R.ls.length
 dis:x.wr.Nodup
 ap:∀ b∈vb x.lv ++ (vb x.gv ++ vb x.sv),b ∉ x.wr
theorem RbR.keep {S:List Nat} {H H':Heap} {x:RL} {R:Rk} (h:RbR H x R) (hk:Keeps S H H') (hd:∀ b∈x.foot,b ∉ S):RbR H' x R :=
 ⟨hk.get h.obj (hd _ (by simp[RL.foot])),h.pts.keep hk (fun b hb=>hd b (by simp[RL.foot,hb])),h.grs.keep hk (fun b hb=>hd b (by simp[RL.foot,hb])),hk.get h.vs (hd _ (by simp[RL.foot])),hk.get h.fb (hd _ (by simp[RL.foot])),hk.get h.tv (hd _ (by simp[RL.foot])),h.ss.keep hk (fun b hb=>hd b (by simp[RL.foot,hb])),h.lv,h.lf,h.lt,h.small,h.gsm,h.ssm,h.rs,h.dis,h.ap⟩
theorem RbR.keep0 {H H':Heap} {x:RL} {R:Rk} (h:RbR H x R) (hk:Keeps [] H H'):RbR H' x R:=h.keep hk (by simp)
theorem zbnv {α:Type} [Flat α] {H:Heap} {b n bytes:Nat} {xv:V} {xs:List α} {Q:V→Heap→Prop} (hs:Flat.size α=n) (hb:H.get b=some (.cells true [])) (hx:Sl H xv xs) (hn:xs.length * n≤1000000) (hl:xs.length≤1000000) (hby:bytes≤1000)
  (hQ:∀ w H',Sl H' w xs→Keeps [b] H H'→(∀ c∈vb w,c=b∨H.next≤c)→Q w H'):wp (zc4 n bytes (slc b 0 n 0 0) xv) Q H:=by
 refine zbnd hs hb hx hn hl hby fun w H2 hw=>?_
 subst hs
 rcases hw with⟨rfl,rfl,rfl⟩ | ⟨rfl,hg,hk,_,_⟩
 ·exact hQ _ _ (.inr ⟨_,_,_,_,rfl,Nat.le_refl _,Heap.get_lt hb,.inl rfl,.inr rfl⟩) (Keeps.refl _ _) (by simp)
 ·refine hQ _ _ (.inr ⟨_,_,_,_,rfl,Nat.le_refl _,Heap.get_lt hg,.inr ⟨_,_,hg,by rw[zb6];omega,?_⟩,.inr rfl⟩) hk (by simp)
  rw[List.drop_zero,List.take_of_length_le (by rw[zb6];exact Nat.le_refl _)]
def newR (ls:List Pt) (gs:List Gr):Rk:=⟨ls,gs,List.replicate ls.length 0,List.replicate ls.length false,List.replicate ls.length 0,[]⟩
theorem zbp4 {H:Heap} {lv gv:V} {ls:List Pt} {gs:List Gr} (hl:Sl H lv ls) (hg:Sl H gv gs) (hn:gs.length≤300000) (Q:V→Heap→Prop)
  (hbad:(chkB ls gs).2≠0→∀ H',Keeps [] H H'→Q (.tuple #[.pointer none,i64 (chkB ls gs).2]) H')
  (hQ:(chkB ls gs).2=0→∀ x H',RbR H' x (newR ls gs)→Keeps [] H H'→(∀ b∈x.foot,H.next≤b)→Q (.tuple #[ptr x.p 0,i64 0]) H'):wp (zzn [lv,gv]) Q H:=by
 show wp (z8d lv gv) Q H
 simp only[z8d,z6]
 refine z88 hl hg (by omega) _ fun H1 k1=>?_
 by_cases he:(chkB ls gs).2≠0
 ·(try simp(maxSteps:=1000000)(disch:=first|omega|(simp only[Z3];omega)|(simp;done)|assumption|decide|(apply not_not_intro;assumption))only[ZB])
  exact hbad he H1 k1
 have he0:(chkB ls gs).2=0:=Decidable.not_not.mp he
 obtain⟨hsm,_,hgr⟩:=z2k he0
 have hl1:=hl.keep0 k1
 have hg1:=hg.keep0 k1
 have hll:=hl1.len
 (try simp(maxSteps:=1000000)(disch:=first|omega|(simp only[Z3];omega)|(simp;done)|assumption|decide|(apply not_not_intro;assumption))only[ZB,zbfa,hll,ztq])
 have kp:=zbcr 5 H1
 have hnr:=zbgv 5 H1
 have hfr:∀ b,H1.next≤b→(zto H1 5).get b=none:=fun b hb=>zbgu hb
 generalize zto H1 5=R0 at *
 refine z54 (cs:=[]) (hfr _ (by omega)) (by omega) (by decide) (by rfl) ?_
 have ks0:Keeps [] H1 (R0.set H1.next (some (.cells true []))):=zb1 kp (.inr (by omega))
 have hs0:=Heap.get_set_self (H:=R0) (b:=H1.next) (x:=some (.cells true [])) (by omega)
 have hf0:∀ b,H1.next < b→(R0.set H1.next (some (.cells true []))).get b=none:=fun b hb=>by rw[Heap.get_set_ne _ _ _ (by omega)];exact hfr b (by omega)
 have hn0:(R0.set H1.next (some (.cells true []))).next=H1.next + 5:=by simp[hnr]
 generalize R0.set H1.next (some (.cells true []))=R1 at *
 (try simp(maxSteps:=1000000)(disch:=first|omega|(simp only[Z3];omega)|(simp;done)|assumption|decide|(apply not_not_intro;assumption))only[ZB])
 refine zbnv (α:=Pt) rfl hs0 (hl1.keep0 ks0) (by omega) (by omega) (by omega) fun w H2 hw k2 fw=>?_
 have hn2:=k2.next
 have k12:Keeps [] H1 H2:=ks0.trans k2 (fun b hb hm=>by simp at hm;omega)
 have hf2:∀ b,H1.next < b→b < H1.next + 5→H2.get b=none:=fun b h1 h2=>by rw[k2.same b (by omega) (by simp;omega)];exact hf0 b h1
 have f1:zeo R1 [H1.next + 1,H1.next + 2,H1.next + 3,H1.next + 4]=true:=zpd fun b hb=>by
  simp only[List.mem_cons,List.not_mem_nil,or_false] at hb
  exact⟨hf0 b (by omega),by omega⟩
 have f2:zeo H2 [H1.next + 1,H1.next + 2,H1.next + 3,H1.next + 4]=true:=zpd fun b hb=>by
  simp only[List.mem_cons,List.not_mem_nil,or_false] at hb
  exact⟨hf2 b (by omega) (by omega),by omega⟩
 (try simp(maxSteps:=1000000)(disch:=first|omega|(simp only[Z3];omega)|(simp;done)|assumption|decide|(apply not_not_intro;assumption))only[ZB,f1,f2,Bool.and_true])
 refine z54 (cs:=[]) (hf2 _ (by omega) (by omega)) (by omega) (by decide) (by rfl) ?_
 have ks2:Keeps [] H1 (H2.set (H1.next + 1) (some (.cells true []))):=zb1 k12 (.inr (by omega))
 have ks2':Keeps [H1.next + 1] H2 (H2.set (H1.next + 1) (some (.cells true []))):=zb1 (Keeps.refl _ _) (.inl (by simp))
 have hs2:=Heap.get_set_self (H:=H2) (b:=H1.next + 1) (x:=some (.cells true [])) (by omega)
 have hf2':∀ b,H1.next + 1 < b→b < H1.next + 5→(H2.set (H1.next + 1) (some (.cells true []))).get b=none:=fun b h1 h2=>by rw[Heap.get_set_ne _ _ _ (by omega)];exact hf2 b (by omega) h2
 have hn2':(H2.set (H1.next + 1) (some (.cells true []))).next=H2.next:=by simp
 have hw2:=hw.keep ks2' (fun b hb hm=>by have:=fw b hb;simp at hm;omega)
 generalize H2.set (H1.next + 1) (some (.cells true []))=R2 at *
 (try simp(maxSteps:=1000000)(disch:=first|omega|(simp only[Z3];omega)|(simp;done)|assumption|decide|(apply not_not_intro;assumption))only[ZB])
 refine zbnv (α:=Gr) rfl hs2 (hg1.keep0 ks2) (by omega) (by omega) (by omega) fun u H3 hu k3 fu=>?_
 have hn3:=k3.next
 have k13:Keeps [] H1 H3:=ks2.trans k3 (fun b hb hm=>by simp at hm;omega)
 have hf3:∀ b,H1.next + 1 < b→b < H1.next + 5→H3.get b=none:=fun b h1 h2=>by rw[k3.same b (by omega) (by simp;omega)];exact hf2' b h1 h2
 have hw3:=hw2.keep k3 (fun b hb hm=>by have:=fw b hb;simp at hm;omega)
 have f3:zeo R2 [H1.next + 2,H1.next + 3,H1.next + 4]=true:=zpd fun b hb=>by
  simp only[List.mem_cons,List.not_mem_nil,or_false] at hb
  exact⟨hf2' b (by omega) (by omega),by omega⟩
 have f4:zeo H3 [H1.next + 2,H1.next + 3,H1.next + 4]=true:=zpd fun b hb=>by
  simp only[List.mem_cons,List.not_mem_nil,or_false] at hb
  exact⟨hf3 b (by omega) (by omega),by omega⟩
 have hwo:=hw.isOne
 have huo:=hu.isOne
 (try simp(maxSteps:=1000000)(disch:=first|omega|(simp only[Z3];omega)|(simp;done)|assumption|decide|(apply not_not_intro;assumption))only[ZB,f3,f4,Bool.and_true])
 refine znm (n:=ls.length) (c:=ls.length) (hf3 _ (by omega) (by omega)) (by omega) (by decide) (Nat.le_refl _) (by omega) (by omega) ?_
 rw[z1x (0:Int) _ (by rfl)]
 (try simp(maxSteps:=1000000)(disch:=first|omega|(simp only[Z3];omega)|(simp;done)|assumption|decide|(apply not_not_intro;assumption))only[ZB])
 refine znm (n:=ls.length) (c:=ls.length) (by rw[Heap.get_set_ne _ _ _ (by omega)];exact hf3 _ (by omega) (by omega)) (by simp;omega) (by decide) (Nat.le_refl _) (by omega) (by omega) ?_
 rw[z1x false _ (by rfl)]
 (try simp(maxSteps:=1000000)(disch:=first|omega|(simp only[Z3];omega)|(simp;done)|assumption|decide|(apply not_not_intro;assumption))only[ZB])
 refine znm (n:=ls.length) (c:=ls.length) (by rw[Heap.get_set_ne _ _ _ (by omega),Heap.get_set_ne _ _ _ (by omega)];exact hf3 _ (by omega) (by omega)) (by simp;omega) (by decide) (Nat.le_refl _) (by omega) (by omega) ?_
 rw[z1x (0:Int) _ (by rfl)]
 generalize hb0:H1.next=b0 at *
 generalize hH4:(((H3.set (b0 + 2) (some (.cells true (zbm (List.replicate ls.length (0:Int)))))).set (b0 + 3) (some (.cells true (zbm (List.replicate ls.length false))))).set (b0 + 4) (some (.cells true (zbm (List.replicate ls.length (0:Int))))))=H4
 have hn4:H4.next=H3.next:=by rw[← hH4];simp
 have g2:H4.get (b0 + 2)=some (.cells true (zbm (List.replicate ls.length (0:Int)))):=by rw[← hH4,Heap.get_set_ne _ _ _ (by omega),Heap.get_set_ne _ _ _ (by omega),Heap.get_set_self (by omega)]
 have g3:H4.get (b0 + 3)=some (.cells true (zbm (List.replicate ls.length false))):=by rw[← hH4,Heap.get_set_ne _ _ _ (by omega),Heap.get_set_self (by simp;omega)]
 have g4:H4.get (b0 + 4)=some (.cells true (zbm (List.replicate ls.length (0:Int)))):=by rw[← hH4,Heap.get_set_self (by simp;omega)]
 have k4:Keeps [b0 + 2,b0 + 3,b0 + 4] H3 H4:=by
  rw[← hH4]
  exact zb1 (zb1 (zb1 (Keeps.refl _ _) (.inl (by simp))) (.inl (by simp))) (.inl (by simp))
 have k14:Keeps [] H1 H4:=k13.trans k4 (fun b hb hm=>by simp at hm;omega)
 have hw4:=hw3.keep k4 (fun b hb hm=>by have:=fw b hb;simp at hm;omega)
 have hu4:=hu.keep k4 (fun b hb hm=>by have:=fu b hb;simp at hm;omega)
 clear hH4
 (try simp(maxSteps:=1000000)(disch:=first|omega|(simp only[Z3];omega)|(simp;done)|assumption|decide|(apply not_not_intro;assumption))only[ZB,hwo,huo])
 refine (zby (by simp[hwo,huo])).mpr ?_
 (try simp(maxSteps:=1000000)(disch:=first|omega|(simp only[Z3];omega)|(simp;done)|assumption|decide|(apply not_not_intro;assumption))only[ZB])
 have kp5:=Keeps.push [] H4 (some (.cells true [w,u,slc (b0 + 2) 0 1 ls.length ls.length,slc (b0 + 3) 0 1 ls.length ls.length,slc (b0 + 4) 0 1 ls.length ls.length,.slice none 0 0]))
 have k5:Keeps [] H (H4.push (some (.cells true [w,u,slc (b0 + 2) 0 1 ls.length ls.length,slc (b0 + 3) 0 1 ls.length ls.length,slc (b0 + 4) 0 1 ls.length ls.length,.slice none 0 0]))):=(k1.trans k14 (fun _ _ h=>h)).trans kp5 (fun _ _ h=>h)
 have hkn:=k1.next
 refine hQ he0 ⟨H4.next,w,u,b0 + 2,b0 + 3,b0 + 4,.slice none 0 0⟩ _ ⟨Heap.get_push_self _ _,hw4.keep0 kp5,hu4.keep0 kp5,kp5.get g2 (by simp),kp5.get g3 (by simp),kp5.get g4 (by simp),Sl.nil _,by simp[newR],by simp[newR],by simp[newR],hsm,hn,by simp[newR],by simp[newR],?_,?_⟩ k5 ?_
 ·simp only[RL.wr,List.nodup_cons,List.mem_cons,List.not_mem_nil,or_false,not_or,not_false_eq_true,List.nodup_nil,and_true]
  omega
 ·intro b hb hm
  simp only[RL.wr,List.mem_cons,List.not_mem_nil,or_false,List.mem_append] at hb hm
  rcases hb with hb | hb | hb
  ·have:=fw b hb;have:=hw4.lt b hb;omega
  ·have:=fu b hb;have:=hu4.lt b hb;omega
  ·simp at hb
 ·intro b hb
  simp only[RL.foot,List.mem_cons,List.mem_append] at hb
  rcases hb with rfl | rfl | rfl | rfl | hb | hb | hb
  ·omega
  ·omega
  ·omega
  ·omega
  ·have:=fw b hb;omega
  ·have:=fu b hb;omega
  ·simp at hb
end Go.AM.Cap
