import Derived.Test.YtjchglndancedaaGreatDoorCfR
import Derived.Test.YtjchglndancedaaGreatDoorAmIn
set_option linter.all false
/- conf: a line -/
set_option maxHeartbeats 16000000
namespace Go.AM.Cap
open Go.AM Go.Proofs
variable {H0 H:Heap} {R:Nat} {v:RV} {st:RSt} {L:List Thing}
theorem eqB (a b:BitVec 8):zy .eql (B a) (B b)=some (.bool (decide (a=b))):=by
 have:(((a.toNat:Int) == (b.toNat:Int)))=decide (a=b):=by
  by_cases h:a=b
  ·subst h;simp
  ·rw[decide_eq_false h]
   have:¬ a.toNat=b.toNat:=fun q=>h (BitVec.eq_of_toNat_eq q)
   simp;omega
 show some (Value.bool ((a.toNat:Int) == (b.toNat:Int)))=_
 rw[this]
structure Fid where
 f:Nat
def Fid.val (f:Fid):V := .func (.func f.f) #[] #[]
instance:ValE Fid:=⟨Fid.val,fun _=>rfl⟩
instance:KeyE ByteArray:=⟨.one .s,.string,fun a b=>by simp only[zua,eqK],fun _=>rfl,fun _=>rfl⟩
def znp:Kw→Fid
 | .single=>⟨zbm⟩
 | .point=>⟨zb0⟩
 | .grant=>⟨zb1⟩
 | .port=>⟨zcb⟩
 | .window=>⟨zcs⟩
 | .engs=>⟨zb8⟩
 | .unit=>⟨zdd⟩
 | .bind=>⟨zcc⟩
 | .user=>⟨zde⟩
 | .role=>⟨zdf⟩
def tabF:List (ByteArray × Fid):=[(zdv,znp .single),(zgd,znp .single),(zno,znp .single),(kIn,znp .point),(z04,znp .point),(zbbb,znp .grant),(zm5,znp .grant),(zqa,znp .port),(zkj,znp .port),(z0c,znp .window),(zbd6,znp .engs),(z81,znp .unit),(zq9,znp .bind),(zyz,znp .bind),(z03,znp .user),(z82,znp .role)]
theorem zbvr (w:ByteArray):znb tabF w=(kwOf w).map znp:=by
 simp only[kwOf,apply_ite (Option.map znp),Option.map_some,Option.map_none,tabF,znb]
def z65 (M:Nat):Thing:=⟨[M],fun H=>H.get M=some (.map true (tabF.map zkt)),fun _ h p=>by rw[h M (by simp)];exact p,fun p b hb=>by simp at hb;subst hb;exact Heap.get_lt p⟩
theorem stSF (es:List (ByteArray × Fid)) (k:ByteArray) (f:Nat) (K:Option Blk→Prop):setG (some (.map true (es.map zkt))) (.one .s) (.string k) (.func (.func f) #[] #[]) K↔K (some (.map true ((zji es k ⟨f⟩).map zkt))):=z70 es k (⟨f⟩:Fid) K
theorem lkSF (rw_:Bool) (es:List (ByteArray × Fid)) (k:ByteArray):zwm (some (.map rw_ (es.map zkt))) (.one .s) .nilFunc false (.string k)=some ((znb es k).elim .nilFunc ValE.enc):=z32 rw_ es .nilFunc rfl k
theorem zbnc {G1:List V→M V} (h:Hp H0 H L) (Q:V→Heap→Prop) (hQ:∀ H',Hp H0 H' (z65 H.next :: L)→Q (.map (some H.next)) H'):wp (zpi G1 zcn zsu []) Q H:=by
 show wp (zu5 G1 zcn zsu) Q H
 have e0:(some (.map true []):Option Blk)=some (.map true (([]:List (ByteArray × Fid)).map zkt)):=rfl
 (try simp(maxSteps:=1000000)(disch:=first|omega|(simp only[Z3];omega)|(simp;done)|assumption|decide|(apply not_not_intro;assumption))only[ZB,zu5,zbjw,e0,zur,stSF])
 have e1:zji (zji (zji (zji (zji (zji (zji (zji (zji (zji (zji (zji (zji (zji (zji (zji [] (⟨#[109,105,108,108,105,115]⟩:ByteArray) (⟨zbm⟩:Fid)) ⟨#[102,114,97,109,101]⟩ ⟨zbm⟩) ⟨#[105,100,108,101]⟩ ⟨zbm⟩) ⟨#[105,110]⟩ ⟨zb0⟩) ⟨#[111,117,116]⟩ ⟨zb0⟩) ⟨#[114,101,97,100]⟩ ⟨zb1⟩) ⟨#[119,114,105,116,101]⟩ ⟨zb1⟩) ⟨#[115,97,109,112,108,101]⟩ ⟨zcb⟩) ⟨#[113,117,101,117,101]⟩ ⟨zcb⟩) ⟨#[119,105,110,100,111,119]⟩ ⟨zcs⟩) ⟨#[101,110,103,105,110,101,101,114,115]⟩ ⟨zb8⟩) ⟨#[117,110,105,116]⟩ ⟨zdd⟩) ⟨#[103,101,116]⟩ ⟨zcc⟩) ⟨#[112,117,116]⟩ ⟨zcc⟩) ⟨#[117,115,101,114]⟩ ⟨zde⟩) ⟨#[114,111,108,101]⟩ ⟨zdf⟩=tabF:=by kernel_rfl
 rw[e1]
 refine hQ _ (h.add (t:=z65 H.next) (Keeps.push _ _ _) (Heap.get_push_self _ _) (by simp[z65]))
theorem zbs1 {σ:zu} {g:Nat} {args:List V}:zmm σ (.func (.func g) #[] #[]) args=σ g args:=by simp[zmm]
noncomputable def zbxb (G:List V→M V):Kw→List V→M V
 | .single=>zec G zcn
 | .point=>zes
 | .grant=>zet G zcn
 | .port=>zfd G zcn
 | .window=>zed G zcn
 | .engs=>zc8 G zcn
 | .unit=>zfe
 | .bind=>zff G zcn
 | .user=>zfg G zsu
 | .role=>zfh G zcn
theorem zbqc {w:ByteArray} (h:kwOf w=some .single):w=zdv∨w=zgd∨w=zno:=by
 unfold kwOf at h
 by_cases h1:w=zdv
 ·exact .inl h1
 by_cases h2:w=zgd
 ·exact .inr (.inl h2)
 by_cases h3:w=zno
 ·exact .inr (.inr h3)
 rw[if_neg h1,if_neg h2,if_neg h3] at h
 by_cases g0:w=kIn
 ·rw[if_pos g0] at h;cases h
 rw[if_neg g0] at h
 by_cases g1:w=z04
 ·rw[if_pos g1] at h;cases h
 rw[if_neg g1] at h
 by_cases g2:w=zbbb
 ·rw[if_pos g2] at h;cases h
 rw[if_neg g2] at h
 by_cases g3:w=zm5
 ·rw[if_pos g3] at h;cases h
 rw[if_neg g3] at h
 by_cases g4:w=zqa
 ·rw[if_pos g4] at h;cases h
 rw[if_neg g4] at h
 by_cases g5:w=zkj
 ·rw[if_pos g5] at h;cases h
 rw[if_neg g5] at h
 by_cases g6:w=z0c
 ·rw[if_pos g6] at h;cases h
 rw[if_neg g6] at h
 by_cases g7:w=zbd6
 ·rw[if_pos g7] at h;cases h
 rw[if_neg g7] at h
 by_cases g8:w=z81
 ·rw[if_pos g8] at h;cases h
 rw[if_neg g8] at h
 by_cases g9:w=zq9
 ·rw[if_pos g9] at h;cases h
 rw[if_neg g9] at h
 by_cases g10:w=zyz
 ·rw[if_pos g10] at h;cases h
 rw[if_neg g10] at h
 by_cases g11:w=z03
 ·rw[if_pos g11] at h;cases h
 rw[if_neg g11] at h
 by_cases g12:w=z82
 ·rw[if_pos g12] at h;cases h
 rw[if_neg g12] at h
 cases h
theorem zbvs {G:List V→M V} {wv:V} {ws:List ByteArray} (hT:Tabs H0) (h:ReadAt H0 H R v st (view wv ws :: L)) (hs:Sm st 1000000) (hw:1≤ws.length) (hb:ws.length≤1000000) (hwz:∀ w∈ws,w.size≤1000000) (k:Kw) (hk:kwOf (wAt ws 0)=some k):zl0 H0 H R (view wv ws :: L) (z3d st ws k) (zbxb G k [ptr R 0,wv]):=by
 cases k with
 | single=>exact zbqb h hs hw hb hwz (zbqc hk)
 | point=>exact zbsx hT h hs hw
 | grant=>exact zbsy h hs hw hb hwz
 | port=>exact zbvq hT h hs hw hwz
 | window=>exact zbqa h hs hw hb hwz
 | engs=>exact zbvl h hs hw hb hwz
 | unit=>exact zbvm h hs
 | bind=>exact zbvo h hs hwz
 | user=>exact zbvn h hs hwz
 | role=>exact zbvp hT h hs hwz
theorem zbqd (G:List V→M V) (k:Kw) (args:List V):zmm (ovr [(zbm,zec G zcn),(zb0,zes),(zb1,zet G zcn),(zcb,zfd G zcn),(zcs,zed G zcn),(zb8,zc8 G zcn),(zdd,zfe),(zcc,zff G zcn),(zde,zfg G zsu),(zdf,zfh G zcn),(zco,zkk),(zcp,zbj)] noC) (znp k).val args=zbxb G k args:=by
 unfold Fid.val
 rw[zbs1]
 cases k <;> rfl
end Go.AM.Cap

/- conf: a line, lines -/
set_option maxHeartbeats 16000000
namespace Go.AM.Cap
open Go.AM Go.Proofs
variable {H0 H:Heap} {R:Nat} {v:RV} {st:RSt} {L:List Thing}
theorem zbgp {c:BitVec 8} {s w:ByteArray} (h:w∈zbv c s):w.size≤s.size:=by
 obtain⟨l,hl,rfl⟩:=List.mem_map.1 h
 rw[z3y,← zcy s]
 exact z0b c _ l hl
theorem zbed (c:BitVec 8) (s:ByteArray):(zbv c s).length≤s.size + 1:=by
 rw[zbv,List.length_map,← zcy s]
 exact zxw c _
theorem zbee (c:BitVec 8) (s:ByteArray):1≤(zbv c s).length:=by
 have:=zbgl c s
 cases h:zbv c s with
 | nil=>exact absurd h this
 | cons a l=>simp
theorem zbae:v.things R st L=v.things R st [] ++ L:=by
 simp only[RV.things,List.append_nil,List.cons_append,List.append_assoc]
theorem Hp.look {α:Type} [Flat α] {w:V} {xs:List α} (h:Hp H0 H (own w xs :: L)):Hp H0 H (view w xs :: L) :=
 ⟨h.keeps,fun t ht=>by
  rcases List.mem_cons.1 ht with rfl | ht
  ·exact h.new (own w xs) (by simp)
  ·exact h.new t (by simp[ht]),fun t ht=>by
  rcases List.mem_cons.1 ht with rfl | ht
  ·exact (h.own (i:=0) rfl).sl
  ·exact h.all t (by simp[ht]),by
  have:=List.pairwise_cons.1 h.apart
  exact List.pairwise_cons.2 ⟨this.1,this.2⟩⟩
theorem ReadAt.view_in {w:V} {ws:List ByteArray} {H':Heap} (h:ReadAt H0 H R v st L) (s:Hp H0 H' (own w ws :: v.things R st L)):ReadAt H0 H' R v st (view w ws :: L):=by
 refine⟨?_,h.uns,h.us⟩
 have s1:=Hp.look s
 rw[zbae] at s1 ⊢
 exact s1.perm List.perm_middle.symm
theorem zbvt {G:List V→M V} {M:Nat} (hT:Tabs H0) (h:ReadAt H0 H R v st (z65 M :: L)) (hs:Sm st 1000000) (s:ByteArray) (hz:s.size≤100000) (Q:V→Heap→Prop)
  (hok:∀ st',zsf st s = .ok st'→∀ v' H',ReadAt H0 H' R v' st' (z65 M :: L)→Q (i64 0) H') (hbad:∀ e,zsf st s = .error e→e≠0→∀ H',Hp H0 H' (z65 M :: L)→Q (i64 e) H'):wp (zjn zkk G zcn zsu [ptr R 0,.string s,.map (some M)]) Q H:=by
 show wp (zhh zkk G zcn zsu (ptr R 0) (.string s) (.map (some M))) Q H
 by_cases c1:s.size=0
 ·have e:zsf st s = .ok st:=by rw[zsf,if_pos (.inl c1)]
  have e1:decide (s=(⟨#[]⟩:ByteArray))=true:=decide_eq_true (zbbc c1)
  (try simp(maxSteps:=1000000)(disch:=first|omega|(simp only[Z3];omega)|(simp;done)|assumption|decide|(apply not_not_intro;assumption))only[ZB,zhh,e1])
  exact hok _ e _ _ h
 have e1:decide (s=(⟨#[]⟩:ByteArray))=false:=decide_eq_false fun h=>c1 (by rw[h];rfl)
 have ix:=zwj (s:=s) (k := .i64) (i:=0) (by omega) (by omega)
 have hhd:(bv s).getD (0:Int).toNat 0=(bv s).headD 0:=by cases bv s <;> rfl
 rw[hhd] at ix
 have e35:(Value.int .u8 35:V)=B 35#8:=rfl
 by_cases c2:(bv s).headD 0=35#8
 ·have e:zsf st s = .ok st:=by rw[zsf,if_pos (.inr c2)]
  have e2:decide ((((bv s).headD 0).toNat:Int)=((35#8).toNat:Int))=true:=decide_eq_true (by rw[c2])
  (try simp(maxSteps:=1000000)(disch:=first|omega|(simp only[Z3];omega)|(simp;done)|assumption|decide|(apply not_not_intro;assumption))only[ZB,zhh,e1,ix,e35,e2])
  exact hok _ e _ _ h
 have e2:decide ((((bv s).headD 0).toNat:Int)=((35#8).toNat:Int))=false:=decide_eq_false fun q=>c2 (BitVec.eq_of_toNat_eq (by omega))
 have hline:zsf st s=match kwOf (wAt (zbv 32 s) 0) with
  | none => .error 3
  | some k=>if zvv (zbv 32 s) zh4=true then .error 3 else match z3d st (zbv 32 s) k with
   | none => .error 3
   | some st'=>if zvv st.once (wAt (zbv 32 s) 0)=true then .error 6 else .ok st':=by
  rw[zsf,if_neg (by rintro (q | q);exact c1 q;exact c2 q)]
  rfl
 have hwz:∀ w∈zbv 32 s,w.size≤1000000:=fun w hw=>by have:=zbgp hw;omega
 have hwl:=zbed 32 s
 have hwp:=zbee 32 s
 generalize hws:zbv 32 s=ws at *
 (try simp(maxSteps:=1000000)(disch:=first|omega|(simp only[Z3];omega)|(simp;done)|assumption|decide|(apply not_not_intro;assumption))only[ZB,zhh,e1,ix,e35,e2,zs6])
 refine zbkt (hT.ml.keep0 h.hp.keeps) h.hp s ⟨#[32]⟩ 32 (by decide) (by omega) _ fun w H1 k1 s1=>?_
 rw[hws] at s1
 have r1:=h.view_in s1
 obtain⟨a0,b0⟩:=wd0 r1.words (by omega)
 have gM:H1.get M=some (.map true (tabF.map zkt)):=r1.rest.all (z65 M) (by simp)
 have etab:=lkSF true tabF (wAt ws 0)
 rw[zbvr] at etab
 cases hk:kwOf (wAt ws 0) with
 | none =>
  rw[hk] at hline etab
  have et:zwm (some (.map true (tabF.map zkt))) (.one .s) .nilFunc false (.string (wAt ws 0))=some .nilFunc:=etab
  have en:zcz false (zd9 .f (.nilFunc:V))=some (.bool true):=rfl
  (try simp(maxSteps:=1000000)(disch:=first|omega|(simp only[Z3];omega)|(simp;done)|assumption|decide|(apply not_not_intro;assumption))only[ZB,a0,b0,zg9,gM,et,en])
  exact hbad 3 hline (by decide) _ r1.rest.tail
 | some k =>
  rw[hk] at hline etab
  have et:zwm (some (.map true (tabF.map zkt))) (.one .s) .nilFunc false (.string (wAt ws 0))=some (znp k).val:=etab
  have en:zcz false (zd9 .f (znp k).val)=some (.bool false):=by cases k <;> rfl
  (try simp(maxSteps:=1000000)(disch:=first|omega|(simp only[Z3];omega)|(simp;done)|assumption|decide|(apply not_not_intro;assumption))only[ZB,a0,b0,zg9,gM,et,en])
  refine z86 r1.words (by omega) _ _ ?_
  cases hn:zvv ws zh4 with
  | true =>
   simp only[hn,if_true] at hline
   have hn':zvv ws (⟨#[]⟩:ByteArray)=true:=hn
   (try simp(maxSteps:=1000000)(disch:=first|omega|(simp only[Z3];omega)|(simp;done)|assumption|decide|(apply not_not_intro;assumption))only[ZB,hn'])
   exact hbad 3 hline (by decide) _ r1.rest.tail
  | false =>
   simp only[hn] at hline
   have g:=r1.get
   have hone:=r1.hp.own (i:=7) rfl
   unfold RV.cells at g
   have hn':zvv ws (⟨#[]⟩:ByteArray)=false:=hn
   (try simp(maxSteps:=1000000)(disch:=first|omega|(simp only[Z3];omega)|(simp;done)|assumption|decide|(apply not_not_intro;assumption))only[ZB,hn',zs5,g,a0,b0])
   refine z86 hone.sl (by have:=hs.once;omega) (wAt ws 0) _ ?_
   (try simp(maxSteps:=1000000)(disch:=first|omega|(simp only[Z3];omega)|(simp;done)|assumption|decide|(apply not_not_intro;assumption))only[ZB,zbqd])
   refine zbvs hT r1 hs (by omega) (by omega) hwz k hk _ (fun st' hst v' H2 r2=>?_) fun hst H2 s2=>?_
   ·rw[hst] at hline
    cases ho:zvv st.once (wAt ws 0) with
    | true =>
     simp only[ho,if_true] at hline
     (try simp(maxSteps:=1000000)(disch:=first|omega|(simp only[Z3];omega)|(simp;done)|assumption|decide|(apply not_not_intro;assumption))only[ZB])
     exact hbad 6 hline (by decide) _ r2.rest.tail
    | false =>
     simp only[ho] at hline
     (try simp(maxSteps:=1000000)(disch:=first|omega|(simp only[Z3];omega)|(simp;done)|assumption|decide|(apply not_not_intro;assumption))only[ZB,zs4])
     refine hok st' hline v' _ ⟨?_,r2.uns,r2.us⟩
     have:=r2.hp
     rw[zbae] at this ⊢
     exact (this.perm List.perm_middle).tail
   ·rw[hst] at hline
    (try simp(maxSteps:=1000000)(disch:=first|omega|(simp only[Z3];omega)|(simp;done)|assumption|decide|(apply not_not_intro;assumption))only[ZB])
    exact hbad 3 hline (by decide) _ s2.tail
end Go.AM.Cap
