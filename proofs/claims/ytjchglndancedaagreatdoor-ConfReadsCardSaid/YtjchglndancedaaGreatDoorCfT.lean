import Derived.Test.YtjchglndancedaaGreatDoorCfR
import Derived.Test.YtjchglndancedaaGreatDoorAmOpenF
set_option linter.all false
/- conf: a line -/
set_option maxHeartbeats 16000000
namespace Go.AM.Cap
open Go.AM Go.Proofs
variable {H0 H:Heap} {R:Nat} {v:RV} {st:RSt} {L:List Thing}
theorem eqB (a b:BitVec 8):zr .eql (B a) (B b)=some (.bool (decide (a=b))):=by
 have:(((a.toNat:Int) == (b.toNat:Int)))=decide (a=b):=by
  by_cases h:a=b
  ·subst h;simp
  ·rw[decide_eq_false h]
   have:¬ a.toNat=b.toNat:=fun q=>h (BitVec.eq_of_toNat_eq q)
   simp;omega
 show some (Value.bool ((a.toNat:Int) == (b.toNat:Int)))=_
 rw[this]
structure Fid where
 f:Nat
def Fid.val (f:Fid):V := .func (.func f.f) #[] #[]
instance:ValE Fid:=⟨Fid.val,fun _=>rfl⟩
instance:KeyE ByteArray:=⟨.one .s,.string,fun a b=>by simp only[zwq,eqK],fun _=>rfl,fun _=>rfl⟩
def zo3:Kw→Fid
 | .single=>⟨zbx⟩
 | .point=>⟨zca⟩
 | .grant=>⟨zcb⟩
 | .port=>⟨zcj⟩
 | .window=>⟨zc1⟩
 | .engs=>⟨zcf⟩
 | .unit=>⟨zdl⟩
 | .bind=>⟨zck⟩
 | .user=>⟨zdm⟩
 | .role=>⟨zdn⟩
def tabF:List (ByteArray × Fid):=[(ze2,zo3 .single),(zgk,zo3 .single),(zk3,zo3 .single),(kIn,zo3 .point),(zwc,zo3 .point),(z84,zo3 .grant),(zfy,zo3 .grant),(zn2,zo3 .port),(zh0,zo3 .port),(zfh,zo3 .window),(zse,zo3 .engs),(zsf,zo3 .unit),(zr5,zo3 .bind),(z36,zo3 .bind),(zoc,zo3 .user),(znf,zo3 .role)]
theorem zb2m (w:ByteArray):zkg tabF w=(zom w).map zo3:=by
 simp only[zom,apply_ite (Option.map zo3),Option.map_some,Option.map_none,tabF,zkg]
def tabT (M:Nat):Thing:=⟨[M],fun H=>H.get M=some (.map true (tabF.map zls)),fun _ h p=>by rw[h M (by simp)];exact p,fun p b hb=>by simp at hb;subst hb;exact Heap.get_lt p⟩
theorem stSF (es:List (ByteArray × Fid)) (k:ByteArray) (f:Nat) (K:Option Blk→Prop):setG (some (.map true (es.map zls))) (.one .s) (.string k) (.func (.func f) #[] #[]) K↔K (some (.map true ((zig es k ⟨f⟩).map zls))):=zbei es k (⟨f⟩:Fid) K
theorem lkSF (rw_:Bool) (es:List (ByteArray × Fid)) (k:ByteArray):zzf (some (.map rw_ (es.map zls))) (.one .s) .nilFunc false (.string k)=some ((zkg es k).elim .nilFunc ValE.enc):=z9l rw_ es .nilFunc rfl k
theorem zbu4 {G1:List V→M V} (h:Hp H0 H L) (Q:V→Heap→Prop) (hQ:∀ H',Hp H0 H' (tabT H.next :: L)→Q (.map (some H.next)) H'):wp (zq1 G1 zc3 zy9 []) Q H:=by
 show wp (zxh G1 zc3 zy9) Q H
 have e0:(some (.map true []):Option Blk)=some (.map true (([]:List (ByteArray × Fid)).map zls)):=rfl
 (try simp(maxSteps:=1000000)(disch:=first|omega|(simp only[Z3];omega)|(simp;done)|assumption|decide|(apply not_not_intro;assumption))only[ZB,zxh,zbq9,e0,zw4,stSF])
 have e1:zig (zig (zig (zig (zig (zig (zig (zig (zig (zig (zig (zig (zig (zig (zig (zig [] (⟨#[109,105,108,108,105,115]⟩:ByteArray) (⟨zbx⟩:Fid)) ⟨#[102,114,97,109,101]⟩ ⟨zbx⟩) ⟨#[105,100,108,101]⟩ ⟨zbx⟩) ⟨#[105,110]⟩ ⟨zca⟩) ⟨#[111,117,116]⟩ ⟨zca⟩) ⟨#[114,101,97,100]⟩ ⟨zcb⟩) ⟨#[119,114,105,116,101]⟩ ⟨zcb⟩) ⟨#[115,97,109,112,108,101]⟩ ⟨zcj⟩) ⟨#[113,117,101,117,101]⟩ ⟨zcj⟩) ⟨#[119,105,110,100,111,119]⟩ ⟨zc1⟩) ⟨#[101,110,103,105,110,101,101,114,115]⟩ ⟨zcf⟩) ⟨#[117,110,105,116]⟩ ⟨zdl⟩) ⟨#[103,101,116]⟩ ⟨zck⟩) ⟨#[112,117,116]⟩ ⟨zck⟩) ⟨#[117,115,101,114]⟩ ⟨zdm⟩) ⟨#[114,111,108,101]⟩ ⟨zdn⟩=tabF:=by kernel_rfl
 rw[e1]
 refine hQ _ (h.add (t:=tabT H.next) (Keeps.push _ _ _) (Heap.get_push_self _ _) (by simp[tabT]))
theorem zbz3 {σ:zv} {g:Nat} {args:List V}:zn4 σ (.func (.func g) #[] #[]) args=σ g args:=by simp[zn4]
noncomputable def zb3m (G:List V→M V):Kw→List V→M V
 | .single=>zej G zc3
 | .point=>ze4
 | .grant=>ze5 G zc3
 | .port=>zfs G zc3
 | .window=>zek G zc3
 | .engs=>zde G zc3
 | .unit=>zft
 | .bind=>zfu G zc3
 | .user=>zfv G zy9
 | .role=>zfw G zc3
theorem zbxr {w:ByteArray} (h:zom w=some .single):w=ze2∨w=zgk∨w=zk3:=by
 unfold zom at h
 by_cases h1:w=ze2
 ·exact .inl h1
 by_cases h2:w=zgk
 ·exact .inr (.inl h2)
 by_cases h3:w=zk3
 ·exact .inr (.inr h3)
 rw[if_neg h1,if_neg h2,if_neg h3] at h
 by_cases g0:w=kIn
 ·rw[if_pos g0] at h;cases h
 rw[if_neg g0] at h
 by_cases g1:w=zwc
 ·rw[if_pos g1] at h;cases h
 rw[if_neg g1] at h
 by_cases g2:w=z84
 ·rw[if_pos g2] at h;cases h
 rw[if_neg g2] at h
 by_cases g3:w=zfy
 ·rw[if_pos g3] at h;cases h
 rw[if_neg g3] at h
 by_cases g4:w=zn2
 ·rw[if_pos g4] at h;cases h
 rw[if_neg g4] at h
 by_cases g5:w=zh0
 ·rw[if_pos g5] at h;cases h
 rw[if_neg g5] at h
 by_cases g6:w=zfh
 ·rw[if_pos g6] at h;cases h
 rw[if_neg g6] at h
 by_cases g7:w=zse
 ·rw[if_pos g7] at h;cases h
 rw[if_neg g7] at h
 by_cases g8:w=zsf
 ·rw[if_pos g8] at h;cases h
 rw[if_neg g8] at h
 by_cases g9:w=zr5
 ·rw[if_pos g9] at h;cases h
 rw[if_neg g9] at h
 by_cases g10:w=z36
 ·rw[if_pos g10] at h;cases h
 rw[if_neg g10] at h
 by_cases g11:w=zoc
 ·rw[if_pos g11] at h;cases h
 rw[if_neg g11] at h
 by_cases g12:w=znf
 ·rw[if_pos g12] at h;cases h
 rw[if_neg g12] at h
 cases h
theorem zb2n {G:List V→M V} {wv:V} {ws:List ByteArray} (hT:Tabs H0) (h:ReadAt H0 H R v st (view wv ws :: L)) (hs:Sm st 1000000) (hw:1≤ws.length) (hb:ws.length≤1000000) (hwz:∀ w∈ws,w.size≤1000000) (k:Kw) (hk:zom (z8 ws 0)=some k):zfp H0 H R (view wv ws :: L) (zi1 st ws k) (zb3m G k [ptr R 0,wv]):=by
 cases k with
 | single=>exact zbxq h hs hw hb hwz (zbxr hk)
 | point=>exact zbz1 hT h hs hw
 | grant=>exact zbz2 h hs hw hb hwz
 | port=>exact zb2l hT h hs hw hwz
 | window=>exact zbxp h hs hw hb hwz
 | engs=>exact zb2f h hs hw hb hwz
 | unit=>exact zb2h h hs
 | bind=>exact zb2j h hs hwz
 | user=>exact zb2i h hs hwz
 | role=>exact zb2k hT h hs hwz
theorem zbxs (G:List V→M V) (k:Kw) (args:List V):zn4 (ovr [(zbx,zej G zc3),(zca,ze4),(zcb,ze5 G zc3),(zcj,zfs G zc3),(zc1,zek G zc3),(zcf,zde G zc3),(zdl,zft),(zck,zfu G zc3),(zdm,zfv G zy9),(zdn,zfw G zc3),(zcv,zpv),(zcw,zbu)] noC) (zo3 k).val args=zb3m G k args:=by
 unfold Fid.val
 rw[zbz3]
 cases k <;> rfl
end Go.AM.Cap

/- conf: a line, lines -/
set_option maxHeartbeats 16000000
namespace Go.AM.Cap
open Go.AM Go.Proofs
variable {H0 H:Heap} {R:Nat} {v:RV} {st:RSt} {L:List Thing}
theorem z9r {c:BitVec 8} {s w:ByteArray} (h:w∈zbd c s):w.size≤s.size:=by
 obtain⟨l,hl,rfl⟩:=List.mem_map.1 h
 rw[z9j,← zct s]
 exact z35 c _ l hl
theorem zyx (c:BitVec 8) (s:ByteArray):(zbd c s).length≤s.size + 1:=by
 rw[zbd,List.length_map,← zct s]
 exact z1a c _
theorem zyy (c:BitVec 8) (s:ByteArray):1≤(zbd c s).length:=by
 have:=zbha c s
 cases h:zbd c s with
 | nil=>exact absurd h this
 | cons a l=>simp
theorem z9s:v.things R st L=v.things R st [] ++ L:=by
 simp only[RV.things,List.append_nil,List.cons_append,List.append_assoc]
theorem Hp.look {α:Type} [Flat α] {w:V} {xs:List α} (h:Hp H0 H (own w xs :: L)):Hp H0 H (view w xs :: L) :=
 ⟨h.keeps,fun t ht=>by
  rcases List.mem_cons.1 ht with rfl | ht
  ·exact h.new (own w xs) (by simp)
  ·exact h.new t (by simp[ht]),fun t ht=>by
  rcases List.mem_cons.1 ht with rfl | ht
  ·exact (h.own (i:=0) rfl).sl
  ·exact h.all t (by simp[ht]),by
  have:=List.pairwise_cons.1 h.apart
  exact List.pairwise_cons.2 ⟨this.1,this.2⟩⟩
theorem ReadAt.view_in {w:V} {ws:List ByteArray} {H':Heap} (h:ReadAt H0 H R v st L) (s:Hp H0 H' (own w ws :: v.things R st L)):ReadAt H0 H' R v st (view w ws :: L):=by
 refine⟨?_,h.uns,h.us⟩
 have s1:=Hp.look s
 rw[z9s] at s1 ⊢
 exact s1.perm List.perm_middle.symm
theorem zb2o {G:List V→M V} {M:Nat} (hT:Tabs H0) (h:ReadAt H0 H R v st (tabT M :: L)) (hs:Sm st 1000000) (s:ByteArray) (hz:s.size≤100000) (Q:V→Heap→Prop)
  (hok:∀ st',zi6 st s = .ok st'→∀ v' H',ReadAt H0 H' R v' st' (tabT M :: L)→Q (i64 0) H') (hbad:∀ e,zi6 st s = .error e→e≠0→∀ H',Hp H0 H' (tabT M :: L)→Q (i64 e) H'):wp (zkl zpv G zc3 zy9 [ptr R 0,.string s,.map (some M)]) Q H:=by
 show wp (zhw zpv G zc3 zy9 (ptr R 0) (.string s) (.map (some M))) Q H
 by_cases c1:s.size=0
 ·have e:zi6 st s = .ok st:=by rw[zi6,if_pos (.inl c1)]
  have e1:decide (s=(⟨#[]⟩:ByteArray))=true:=decide_eq_true (zzu c1)
  (try simp(maxSteps:=1000000)(disch:=first|omega|(simp only[Z3];omega)|(simp;done)|assumption|decide|(apply not_not_intro;assumption))only[ZB,zhw,e1])
  exact hok _ e _ _ h
 have e1:decide (s=(⟨#[]⟩:ByteArray))=false:=decide_eq_false fun h=>c1 (by rw[h];rfl)
 have ix:=zi9 (s:=s) (k := .i64) (i:=0) (by omega) (by omega)
 have hhd:(bv s).getD (0:Int).toNat 0=(bv s).headD 0:=by cases bv s <;> rfl
 rw[hhd] at ix
 have e35:(Value.int .u8 35:V)=B 35#8:=rfl
 by_cases c2:(bv s).headD 0=35#8
 ·have e:zi6 st s = .ok st:=by rw[zi6,if_pos (.inr c2)]
  have e2:decide ((((bv s).headD 0).toNat:Int)=((35#8).toNat:Int))=true:=decide_eq_true (by rw[c2])
  (try simp(maxSteps:=1000000)(disch:=first|omega|(simp only[Z3];omega)|(simp;done)|assumption|decide|(apply not_not_intro;assumption))only[ZB,zhw,e1,ix,e35,e2])
  exact hok _ e _ _ h
 have e2:decide ((((bv s).headD 0).toNat:Int)=((35#8).toNat:Int))=false:=decide_eq_false fun q=>c2 (BitVec.eq_of_toNat_eq (by omega))
 have hline:zi6 st s=match zom (z8 (zbd 32 s) 0) with
  | none => .error 3
  | some k=>if zsx (zbd 32 s) zeq=true then .error 3 else match zi1 st (zbd 32 s) k with
   | none => .error 3
   | some st'=>if zsx st.once (z8 (zbd 32 s) 0)=true then .error 6 else .ok st':=by
  rw[zi6,if_neg (by rintro (q | q);exact c1 q;exact c2 q)]
  rfl
 have hwz:∀ w∈zbd 32 s,w.size≤1000000:=fun w hw=>by have:=z9r hw;omega
 have hwl:=zyx 32 s
 have hwp:=zyy 32 s
 generalize hws:zbd 32 s=ws at *
 (try simp(maxSteps:=1000000)(disch:=first|omega|(simp only[Z3];omega)|(simp;done)|assumption|decide|(apply not_not_intro;assumption))only[ZB,zhw,e1,ix,e35,e2,zva])
 refine zbst (hT.ml.keep0 h.hp.keeps) h.hp s ⟨#[32]⟩ 32 (by decide) (by omega) _ fun w H1 k1 s1=>?_
 rw[hws] at s1
 have r1:=h.view_in s1
 obtain⟨a0,b0⟩:=wd0 r1.words (by omega)
 have gM:H1.get M=some (.map true (tabF.map zls)):=r1.rest.all (tabT M) (by simp)
 have etab:=lkSF true tabF (z8 ws 0)
 rw[zb2m] at etab
 cases hk:zom (z8 ws 0) with
 | none =>
  rw[hk] at hline etab
  have et:zzf (some (.map true (tabF.map zls))) (.one .s) .nilFunc false (.string (z8 ws 0))=some .nilFunc:=etab
  have en:zcp false (zef .f (.nilFunc:V))=some (.bool true):=rfl
  (try simp(maxSteps:=1000000)(disch:=first|omega|(simp only[Z3];omega)|(simp;done)|assumption|decide|(apply not_not_intro;assumption))only[ZB,a0,b0,zho,gM,et,en])
  exact hbad 3 hline (by decide) _ r1.rest.tail
 | some k =>
  rw[hk] at hline etab
  have et:zzf (some (.map true (tabF.map zls))) (.one .s) .nilFunc false (.string (z8 ws 0))=some (zo3 k).val:=etab
  have en:zcp false (zef .f (zo3 k).val)=some (.bool false):=by cases k <;> rfl
  (try simp(maxSteps:=1000000)(disch:=first|omega|(simp only[Z3];omega)|(simp;done)|assumption|decide|(apply not_not_intro;assumption))only[ZB,a0,b0,zho,gM,et,en])
  refine zbfx r1.words (by omega) _ _ ?_
  cases hn:zsx ws zeq with
  | true =>
   simp only[hn,if_true] at hline
   have hn':zsx ws (⟨#[]⟩:ByteArray)=true:=hn
   (try simp(maxSteps:=1000000)(disch:=first|omega|(simp only[Z3];omega)|(simp;done)|assumption|decide|(apply not_not_intro;assumption))only[ZB,hn'])
   exact hbad 3 hline (by decide) _ r1.rest.tail
  | false =>
   simp only[hn] at hline
   have g:=r1.get
   have hone:=r1.hp.own (i:=7) rfl
   unfold RV.cells at g
   have hn':zsx ws (⟨#[]⟩:ByteArray)=false:=hn
   (try simp(maxSteps:=1000000)(disch:=first|omega|(simp only[Z3];omega)|(simp;done)|assumption|decide|(apply not_not_intro;assumption))only[ZB,hn',zu9,g,a0,b0])
   refine zbfx hone.sl (by have:=hs.once;omega) (z8 ws 0) _ ?_
   (try simp(maxSteps:=1000000)(disch:=first|omega|(simp only[Z3];omega)|(simp;done)|assumption|decide|(apply not_not_intro;assumption))only[ZB,zbxs])
   refine zb2n hT r1 hs (by omega) (by omega) hwz k hk _ (fun st' hst v' H2 r2=>?_) fun hst H2 s2=>?_
   ·rw[hst] at hline
    cases ho:zsx st.once (z8 ws 0) with
    | true =>
     simp only[ho,if_true] at hline
     (try simp(maxSteps:=1000000)(disch:=first|omega|(simp only[Z3];omega)|(simp;done)|assumption|decide|(apply not_not_intro;assumption))only[ZB])
     exact hbad 6 hline (by decide) _ r2.rest.tail
    | false =>
     simp only[ho] at hline
     (try simp(maxSteps:=1000000)(disch:=first|omega|(simp only[Z3];omega)|(simp;done)|assumption|decide|(apply not_not_intro;assumption))only[ZB,zu8])
     refine hok st' hline v' _ ⟨?_,r2.uns,r2.us⟩
     have:=r2.hp
     rw[z9s] at this ⊢
     exact (this.perm List.perm_middle).tail
   ·rw[hst] at hline
    (try simp(maxSteps:=1000000)(disch:=first|omega|(simp only[Z3];omega)|(simp;done)|assumption|decide|(apply not_not_intro;assumption))only[ZB])
    exact hbad 3 hline (by decide) _ s2.tail
end Go.AM.Cap
