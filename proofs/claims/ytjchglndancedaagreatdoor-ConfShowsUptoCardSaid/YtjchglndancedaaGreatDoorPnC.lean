import Derived.Test.YtjchglndancedaaGreatDoorPnB
import Derived.Test.YtjchglndancedaaGreatDoorAmIn
set_option linter.all false
/- points: a bank, and a new one -/
set_option maxHeartbeats 8000000
namespace Go.AM.Cap
open Go.AM Go.Proofs
structure Bk where
 ls:List Pt
 gr:List ((Int × Int) × Bool)
 vs:List Int
 fo:List (Int × Int)
 st:List ((Int × Int) × Int)
structure BL where
 p:Nat
 lv:V
 gm:Nat
 va:Nat
 fm:Nat
 sm:Nat
def BL.foot (x:BL):List Nat:=x.p :: x.gm :: x.va :: x.fm :: x.sm :: vb x.lv
def BL.cells (x:BL) (n:Nat):List V:=[x.lv,.map (some x.gm),slc x.va 0 1 n n,.map (some x.fm),.map (some x.sm)]
structure BankR (H:Heap) (x:BL) (B:Bk):Prop where
 obj:H.get x.p=some (.cells true (x.cells B.ls.length))
 pts:Sl H x.lv B.ls
 gr:H.get x.gm=some (.map true (B.gr.map zlm))
 vs:H.get x.va=some (.cells true (zbj B.vs))
 fo:H.get x.fm=some (.map true (B.fo.map zlm))
 st:H.get x.sm=some (.map true (B.st.map zlm))
 len:B.vs.length=B.ls.length
 small:B.ls.length≤64
 dis:x.foot.Nodup
 ks:(B.st.map (·.1)).Nodup
 kf:(B.fo.map (·.1)).Nodup
 rs:∀ e∈B.st,0≤e.1.2∧e.1.2 < B.ls.length
 rg:∀ e∈B.gr,0≤e.1.2∧e.1.2 < B.ls.length
theorem BankR.lt {H:Heap} {x:BL} {B:Bk} (h:BankR H x B):∀ b∈x.foot,b < H.next:=by
 intro b hb
 simp only[BL.foot,List.mem_cons] at hb
 rcases hb with rfl | rfl | rfl | rfl | rfl | hb
 ·exact Heap.get_lt h.obj
 ·exact Heap.get_lt h.gr
 ·exact Heap.get_lt h.vs
 ·exact Heap.get_lt h.fo
 ·exact Heap.get_lt h.st
 ·exact h.pts.lt b hb
theorem BankR.keep {S:List Nat} {H H':Heap} {x:BL} {B:Bk} (h:BankR H x B) (hk:Keeps S H H') (hd:∀ b∈x.foot,b ∉ S):BankR H' x B :=
 ⟨hk.get h.obj (hd _ (by simp[BL.foot])),h.pts.keep hk (fun b hb=>hd b (by simp[BL.foot,hb])),hk.get h.gr (hd _ (by simp[BL.foot])),hk.get h.vs (hd _ (by simp[BL.foot])),hk.get h.fo (hd _ (by simp[BL.foot])),hk.get h.st (hd _ (by simp[BL.foot])),h.len,h.small,h.dis,h.ks,h.kf,h.rs,h.rg⟩
theorem BankR.keep0 {H H':Heap} {x:BL} {B:Bk} (h:BankR H x B) (hk:Keeps [] H H'):BankR H' x B:=h.keep hk (by simp)
def grOf:List ((Int × Int) × Bool)→List Gr→List ((Int × Int) × Bool)
 | es,[]=>es
 | es,g :: gs=>grOf (zif es (g.part,g.point) ((zjz es (g.part,g.point)).getD false || g.write)) gs
def newB (ls:List Pt) (gs:List Gr):Bk:=⟨ls,grOf [] gs,List.replicate ls.length 0,[],[]⟩
theorem zbjx {ls:List Pt}:∀ {gs:List Gr} {i:Nat} {sn:List (Gr × Bool)} {wr:List (Int × Bool)},(chkG ls i sn wr gs).2=0→∀ g∈gs,(0≤g.part∧g.part < 8)∧0≤g.point∧g.point < ls.length
 | [],_,_,_,_,g,hg=>by cases hg
 | x :: gs,i,sn,wr,h,g,hg=>by
  rw[chkG] at h
  split at h
  ·cases h
  ·rename_i h1
   split at h
   ·cases h
   ·split at h
    ·cases h
    ·rcases List.mem_cons.1 hg with rfl | hg
     ·omega
     ·exact zbjx h g hg
theorem zqc {ls:List Pt} {gs:List Gr} (h:(chkB ls gs).2=0):ls.length≤64∧(∀ p∈ls,¬ z33 p)∧∀ g∈gs,(0≤g.part∧g.part < 8)∧0≤g.point∧g.point < ls.length:=by
 unfold chkB at h
 split at h
 ·cases h
 ·split at h
  ·cases h
  ·rename_i h1 h2
   exact⟨by omega,fun p hp hb=>h2 ⟨p,hp,hb⟩,zbjx h⟩
theorem zbug {H:Heap} {lv:V} {ls:List Pt} (hl:Sl H lv ls) (hsm:ls.length≤64) (Q:V→Heap→Prop) (hQ:∀ w H',Sl H' w ls→Keeps [] H H'→(∀ b∈vb w,H.next≤b)→Q w H'):wp (zct [lv]) Q H:=by
 show wp (zcs lv) Q H
 by_cases hn:lv = .slice none 0 0
 ·subst hn
  have hls:ls=[]:=by
   rcases hl with⟨_,e⟩ | ⟨bb,o,u,c,e,_⟩
   ·exact e
   ·cases e
  subst hls
  have e:zer false (zef .s (.slice none 0 0))=some (.bool true):=rfl
  (try simp (maxSteps:=999999) (disch:=try exact ZD) only[ZB,zcs,e])
  exact hQ _ _ (Sl.nil _) (Keeps.refl _ _) (by simp)
 ·have e:zer false (zef .s lv)=some (.bool false):=by
   rcases hl with⟨rfl,_⟩ | ⟨bb,o,u,c,rfl,_⟩
   ·exact absurd rfl hn
   ·rfl
  (try simp (maxSteps:=999999) (disch:=try exact ZD) only[ZB,zcs,e,zgh])
  refine (zdf (cs:=[]) (by decide) (by rfl)).mpr ?_
  have k1:=Keeps.push [] H (some (.cells true []))
  refine zbmm (α:=Pt) rfl (Heap.get_push_self _ _) (hl.keep0 k1) (by omega) (by omega) (by omega) fun w H2 hw=>?_
  (try simp (maxSteps:=999999) (disch:=try exact ZD) only[ZB])
  rcases hw with⟨rfl,rfl,rfl⟩ | ⟨rfl,hg,hk,_,_⟩
  ·exact hQ _ _ (.inr ⟨_,_,_,_,rfl,Nat.le_refl _,Heap.get_lt (Heap.get_push_self _ _),.inl rfl,.inr rfl⟩) k1 (by simp)
  ·have hn1:(H.push (some (.cells true []))).next=H.next + 1:=by simp
   refine hQ _ _ (.inr ⟨_,_,_,_,rfl,Nat.le_refl _,Heap.get_lt hg,.inr ⟨_,_,hg,by rw[zb6];omega,?_⟩,.inr rfl⟩) (k1.trans hk (fun b hb hm=>by simp at hm;omega)) (by simp)
   rw[List.drop_zero,List.take_of_length_le (by rw[zb6];exact Nat.le_refl _)]
theorem zbz4 {H:Heap} {x:BL} {B:Bk} {gv:V} {gs:List Gr} (h:BankR H x B) (hg:Sl H gv gs) (hr:∀ g∈gs,0≤g.point∧g.point < B.ls.length) (hn:gs.length≤1048576) (hgx:∀ b∈vb gv,b≠x.gm) (Q:Out→Heap→Prop)
  (hQ:∀ H',BankR H' x { B with gr:=grOf B.gr gs } → Keeps [x.gm] H H'→Q (.brk 0 [ptr x.p 0]) H') :
  wp (zba zbm zou [ptr x.p 0,gv,i64 gs.length,i64 0]) Q H:=by
 refine zd6 (Inv:=fun k vs H'=>∃ (i:Nat) (es:List ((Int × Int) × Bool)),k=gs.length - i∧i≤gs.length∧vs=[ptr x.p 0,gv,i64 gs.length,i64 i]∧BankR H' x { B with gr:=es } ∧ Keeps [x.gm] H H'∧grOf es (gs.drop i)=grOf B.gr gs) (n:=gs.length) (by unfold zbm;omega)
  ⟨0,B.gr,by omega,by omega,rfl,h,Keeps.refl _ _,rfl⟩ ?_
 rintro k vs H' ⟨i,es,hk,hi,rfl,hb,kk,he⟩
 have hg':=hg.keep kk (fun b hb=>by simpa using hgx b hb)
 by_cases hlt:i < gs.length
 ·rw[zbaa gs i default hlt,grOf] at he
  have hmem:gs.getD i default∈gs:=by rw[List.getD_eq_getElem?_getD,List.getElem?_eq_getElem hlt];exact List.getElem_mem _
  have hri:=hr _ hmem
  generalize hgg:gs.getD i default=g at he hri
  obtain⟨pa,po,w⟩:=g
  simp only at he hri
  have hobj:=hb.obj
  simp only[BL.cells] at hobj
  have hgm:=hb.gr
  simp only at hgm
  have l1:=Heap.get_lt hobj
  have l2:=Heap.get_lt hgm
  have hne:x.gm≠x.p:=by have:=hb.dis;simp only[BL.foot,List.nodup_cons,List.mem_cons] at this;intro e;exact this.1 (.inl e.symm)
  have hstep:∀ H2,Keeps [x.gm] H' H2→H2.get x.gm=some (.map true ((zif es (pa,po) ((zjz es (pa,po)).getD false || w)).map zlm))→BankR H2 x { B with gr:=zif es (pa,po) ((zjz es (pa,po)).getD false || w) } := fun H2 k2 hm=>by
   have hd:=hb.dis
   simp only[BL.foot,List.nodup_cons,List.mem_cons,not_or] at hd
   obtain⟨⟨d1,d2,d3,d4,d5⟩,⟨d6,d7,d8,d9⟩,d10⟩:=hd
   refine⟨k2.get hb.obj (by simpa using d1),hb.pts.keep k2 (fun b hb'=>by simp;rintro rfl;exact d9 hb'),hm,k2.get hb.vs (by simp;exact fun e=>d6 e.symm),k2.get hb.fo (by simp;exact fun e=>d7 e.symm),k2.get hb.st (by simp;exact fun e=>d8 e.symm),hb.len,hb.small,hb.dis,hb.ks,hb.kf,hb.rs,fun e he=>?_⟩
   rcases zbql he with rfl | he
   ·exact hri
   ·exact hb.rg e he
  cases hw:(zjz es (pa,po)).getD false with
  | true =>
   (try simp (maxSteps:=999999) (disch:=try exact ZD) only[ZB,zou,zzl,hg'.addr' (n:=3) rfl,hg'.ldn' (n:=3) rfl _ default,Int.toNat_natCast,zxm,hgg,hobj,hgm,zhh,lkPB,hw,zv6,stPB,zzk])
   refine⟨gs.length - (i + 1),by omega,i + 1,_,rfl,by omega,rfl,hstep _ ?_ ?_,kk.trans ?_ (fun _ _ h=>h),he⟩
   ·exact zbq (zbq (zb7 (Keeps.refl _ _) (.inl (by simp))))
   ·rw[Heap.get_push_lt (by simp;omega),Heap.get_push_lt (by simp;omega),Heap.get_set_self l2,hw];rfl
   ·exact zbq (zbq (zb7 (Keeps.refl _ _) (.inl (by simp))))
  | false =>
   (try simp (maxSteps:=999999) (disch:=try exact ZD) only[ZB,zou,zzl,hg'.addr' (n:=3) rfl,hg'.ldn' (n:=3) rfl _ default,Int.toNat_natCast,zxm,hgg,hobj,hgm,zhh,lkPB,hw,zv6,stPB,zzk])
   refine⟨gs.length - (i + 1),by omega,i + 1,_,rfl,by omega,rfl,hstep _ ?_ ?_,kk.trans ?_ (fun _ _ h=>h),he⟩
   ·exact zbq (zbq (zb7 (Keeps.refl _ _) (.inl (by simp))))
   ·rw[Heap.get_push_lt (by simp;omega),Heap.get_push_lt (by simp;omega),Heap.get_set_self l2,hw];rfl
   ·exact zbq (zbq (zb7 (Keeps.refl _ _) (.inl (by simp))))
 ·have:i=gs.length:=by omega
  subst this
  rw[List.drop_length,grOf] at he
  (try simp (maxSteps:=999999) (disch:=try exact ZD) only[ZB,zou])
  exact hQ _ (by rw[← he];exact hb) kk
theorem zblw {H:Heap} {lv gv:V} {ls:List Pt} {gs:List Gr} (hl:Sl H lv ls) (hg:Sl H gv gs) (hn:gs.length≤1048576) (Q:V→Heap→Prop)
  (hbad:(chkB ls gs).2≠0→∀ H',Keeps [] H H'→Q (.tuple #[.pointer none,i64 (chkB ls gs).2]) H')
  (hQ:(chkB ls gs).2=0→∀ x H',BankR H' x (newB ls gs)→Keeps [] H H'→(∀ b∈x.foot,H.next≤b)→Q (.tuple #[ptr x.p 0,i64 0]) H'):wp (zvb [lv,gv]) Q H:=by
 show wp (z1z lv gv) Q H
 simp only[z1z,z7]
 refine z3r H lv gv ls gs hl hg hn _ fun H1 k1=>?_
 by_cases he:(chkB ls gs).2≠0
 ·(try simp (maxSteps:=999999) (disch:=try exact ZD) only[ZB])
  exact hbad he H1 k1
 have he0:(chkB ls gs).2=0:=Decidable.not_not.mp he
 obtain⟨hsm,_,hgr⟩:=zqc he0
 have hl1:=hl.keep0 k1
 have hg1:=hg.keep0 k1
 (try simp (maxSteps:=999999) (disch:=try exact ZD) only[ZB,z9s,hl1.len,zpw])
 have kp:=zbiq 4 H1
 have hnr:=zbmo 4 H1
 have hfr:∀ b,H1.next≤b→(zuy H1 4).get b=none:=fun b hb=>zbmn hb
 generalize zuy H1 4=R at *
 refine zbug (hl1.keep0 kp) hsm _ fun w H2 hw k2 fw=>?_
 have hn2:=k2.next
 have hf2:∀ b,H1.next≤b→b < H1.next + 4→H2.get b=none:=fun b h1 h2=>by rw[k2.same b (by omega) (by simp)];exact hfr b h1
 have f1:zdq R [H1.next,H1.next + 1,H1.next + 2,H1.next + 3]=true:=zpb fun b hb=>by
  simp only[List.mem_cons,List.not_mem_nil,or_false] at hb
  exact⟨hfr b (by omega),by omega⟩
 have f2:zdq H2 [H1.next,H1.next + 1,H1.next + 2,H1.next + 3]=true:=zpb fun b hb=>by
  simp only[List.mem_cons,List.not_mem_nil,or_false] at hb
  exact⟨hf2 b (by omega) (by omega),by omega⟩
 (try simp (maxSteps:=999999) (disch:=try exact ZD) only[ZB,f1,f2,Bool.and_true])
 refine z1k (hf2 _ (by omega) (by omega)) (by omega) ?_
 (try simp (maxSteps:=999999) (disch:=try exact ZD) only[ZB])
 refine zm9 (n:=ls.length) (c:=ls.length) (by rw[Heap.get_set_ne _ _ _ (by omega)];exact hf2 _ (by omega) (by omega)) (by simp;omega) (by decide) (Nat.le_refl _) (by omega) (by omega) ?_
 rw[z0e (0:Int) _ (by rfl)]
 (try simp (maxSteps:=999999) (disch:=try exact ZD) only[ZB])
 refine z1k (by rw[Heap.get_set_ne _ _ _ (by omega),Heap.get_set_ne _ _ _ (by omega)];exact hf2 _ (by omega) (by omega)) (by simp;omega) ?_
 (try simp (maxSteps:=999999) (disch:=try exact ZD) only[ZB])
 refine z1k (by rw[Heap.get_set_ne _ _ _ (by omega),Heap.get_set_ne _ _ _ (by omega),Heap.get_set_ne _ _ _ (by omega)];exact hf2 _ (by omega) (by omega)) (by simp;omega) ?_
 have hwo:=hw.isOne
 (try simp (maxSteps:=999999) (disch:=try exact ZD) only[ZB,hwo])
 refine (zb0 (by simp[hwo])).mpr ?_
 (try simp (maxSteps:=999999) (disch:=try exact ZD) only[ZB,hg.len,hg1.len])
 generalize hb0:H1.next=b0 at *
 generalize hH3:((((H2.set b0 (some (.map true []))).set (b0 + 1) (some (.cells true (zbj (List.replicate ls.length (0:Int)))))).set (b0 + 2) (some (.map true []))).set (b0 + 3) (some (.map true [])))=H3
 have hn3:H3.next=H2.next:=by rw[← hH3];simp
 have g0:H3.get b0=some (.map true []):=by rw[← hH3,Heap.get_set_ne _ _ _ (by omega),Heap.get_set_ne _ _ _ (by omega),Heap.get_set_ne _ _ _ (by omega),Heap.get_set_self (by omega)]
 have g1:H3.get (b0 + 1)=some (.cells true (zbj (List.replicate ls.length (0:Int)))):=by rw[← hH3,Heap.get_set_ne _ _ _ (by omega),Heap.get_set_ne _ _ _ (by omega),Heap.get_set_self (by simp;omega)]
 have g2:H3.get (b0 + 2)=some (.map true []):=by rw[← hH3,Heap.get_set_ne _ _ _ (by omega),Heap.get_set_self (by simp;omega)]
 have g3:H3.get (b0 + 3)=some (.map true []):=by rw[← hH3,Heap.get_set_self (by simp;omega)]
 have k3:Keeps [b0,b0 + 1,b0 + 2,b0 + 3] H2 H3:=by
  rw[← hH3]
  exact zb7 (zb7 (zb7 (zb7 (Keeps.refl _ _) (.inl (by simp))) (.inl (by simp))) (.inl (by simp))) (.inl (by simp))
 have hw3:=hw.keep k3 (fun b hb hm=>by have:=fw b hb;simp at hm;omega)
 have key:∀ (x:BL),x=⟨H3.next,w,b0,b0 + 1,b0 + 2,b0 + 3⟩→BankR (H3.push (some (.cells true [w,.map (some b0),slc (b0 + 1) 0 1 ls.length ls.length,.map (some (b0 + 2)),.map (some (b0 + 3))]))) x ⟨ls,[],List.replicate ls.length 0,[],[]⟩:=by
  rintro x rfl
  have kp3:=Keeps.push [] H3 (some (.cells true [w,.map (some b0),slc (b0 + 1) 0 1 ls.length ls.length,.map (some (b0 + 2)),.map (some (b0 + 3))]))
  refine⟨Heap.get_push_self _ _,hw3.keep0 kp3,kp3.get g0 (by simp),kp3.get g1 (by simp),kp3.get g2 (by simp),kp3.get g3 (by simp),by simp,hsm,?_,by simp,by simp,by simp,by simp⟩
  have hvn:(_root_.Go.AM.vb w).Nodup:=by
   rcases hw with⟨rfl,_⟩ | ⟨b,o,u,c,rfl,_⟩ <;> simp
  have hvl:∀ b∈_root_.Go.AM.vb w,R.next≤b∧b < H3.next:=fun b hb=>⟨fw b hb,by rw[hn3];exact hw.lt b hb⟩
  simp only[BL.foot,List.nodup_cons,List.mem_cons,not_or]
  refine⟨⟨by omega,by omega,by omega,by omega,fun hm=>by have:=(hvl _ hm).2;omega⟩,⟨by omega,by omega,by omega,fun hm=>by have:=(hvl _ hm).1;omega⟩,⟨by omega,by omega,fun hm=>by have:=(hvl _ hm).1;omega⟩,⟨by omega,fun hm=>by have:=(hvl _ hm).1;omega⟩,fun hm=>by have:=(hvl _ hm).1;omega,hvn⟩
 have hB:=key _ rfl
 generalize hH4:H3.push (some (.cells true [w,.map (some b0),slc (b0 + 1) 0 1 ls.length ls.length,.map (some (b0 + 2)),.map (some (b0 + 3))]))=H4 at *
 have k4:Keeps [] H1 H4:=by
  have a1:Keeps [] H1 H2:=kp.trans k2 (fun _ _ h=>h)
  have a2:Keeps [] H1 H3:=a1.trans k3 (fun b hb hm=>by simp at hm;omega)
  rw[← hH4];exact zbq a2
 have hg4:=hg1.keep0 k4
 rw[← hn3]
 refine zbz4 (x:=⟨H3.next,w,b0,b0 + 1,b0 + 2,b0 + 3⟩) hB hg4 (fun g hg=>(hgr g hg).2) hn (fun b hb e=>by have:=hg1.lt b hb;simp only at e;omega) _ fun H5 hB5 k5=>?_
 (try simp (maxSteps:=999999) (disch:=try exact ZD) only[ZB,z9r])
 have hk5:Keeps [] H H5:=(k1.trans k4 (fun _ _ h=>h)).trans k5 (fun b hb hm=>by have:=k1.next;simp at hm;omega)
 refine hQ he0 _ H5 hB5 hk5 fun b hb=>?_
 have:=k1.next
 simp only[BL.foot,List.mem_cons] at hb
 rcases hb with rfl | rfl | rfl | rfl | rfl | hb
 ·omega
 ·omega
 ·omega
 ·omega
 ·omega
 ·have:=fw b hb;omega
end Go.AM.Cap
