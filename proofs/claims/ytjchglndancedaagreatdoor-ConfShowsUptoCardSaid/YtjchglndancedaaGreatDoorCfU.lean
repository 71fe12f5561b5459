import Derived.Test.YtjchglndancedaaGreatDoorCfR
import Derived.Test.YtjchglndancedaaGreatDoorAmIn
set_option linter.all false
/- conf: a line -/
set_option maxHeartbeats 16000000
namespace Go.AM.Cap
open Go.AM Go.Proofs
variable {H0 H:Heap} {R:Nat} {v:RV} {st:RSt} {L:List Thing}
theorem eqB (a b:BitVec 8):zu .eql (B a) (B b)=some (.bool (decide (a=b))):=by
 have:(((a.toNat:Int) == (b.toNat:Int)))=decide (a=b):=by
  by_cases h:a=b
  ·subst h;simp
  ·rw[decide_eq_false h]
   have:¬ a.toNat=b.toNat:=fun q=>h (BitVec.eq_of_toNat_eq q)
   simp;omega
 show some (Value.bool ((a.toNat:Int) == (b.toNat:Int)))=_
 rw[this]
structure Fid where
 f:Nat
def Fid.val (f:Fid):V := .func (.func f.f) #[] #[]
instance:ValE Fid:=⟨Fid.val,fun _=>rfl⟩
instance:KeyE ByteArray:=⟨.one .s,.string,fun a b=>by simp only[zvv,eqK],fun _=>rfl,fun _=>rfl⟩
def zo2:Kw→Fid
 | .single=>⟨zbt⟩
 | .point=>⟨zb9⟩
 | .grant=>⟨zca⟩
 | .port=>⟨zcj⟩
 | .window=>⟨zcy⟩
 | .engs=>⟨zch⟩
 | .unit=>⟨zdk⟩
 | .bind=>⟨zck⟩
 | .user=>⟨zdl⟩
 | .role=>⟨zdm⟩
def tabF:List (ByteArray × Fid):=[(zhz,zo2 .single),(zkf,zo2 .single),(zso,zo2 .single),(kIn,zo2 .point),(kOut,zo2 .point),(zbr4,zo2 .grant),(zs5,zo2 .grant),(zbhd,zo2 .port),(z2h,zo2 .port),(zbhe,zo2 .window),(zbvk,zo2 .engs),(zbgo,zo2 .unit),(z34,zo2 .bind),(kPut,zo2 .bind),(zbgp,zo2 .user),(zbvl,zo2 .role)]
theorem zb24 (w:ByteArray):zjz tabF w=(kwOf w).map zo2:=by
 simp only[kwOf,apply_ite (Option.map zo2),Option.map_some,Option.map_none,tabF,zjz]
def tabT (M:Nat):Thing:=⟨[M],fun H=>H.get M=some (.map true (tabF.map zlm)),fun _ h p=>by rw[h M (by simp)];exact p,fun p b hb=>by simp at hb;subst hb;exact Heap.get_lt p⟩
theorem stSF (es:List (ByteArray × Fid)) (k:ByteArray) (f:Nat) (K:Option Blk→Prop):setG (some (.map true (es.map zlm))) (.one .s) (.string k) (.func (.func f) #[] #[]) K↔K (some (.map true ((zif es k ⟨f⟩).map zlm))):=zbcn es k (⟨f⟩:Fid) K
theorem lkSF (rw_:Bool) (es:List (ByteArray × Fid)) (k:ByteArray):zyd (some (.map rw_ (es.map zlm))) (.one .s) .nilFunc false (.string k)=some ((zjz es k).elim .nilFunc ValE.enc):=z70 rw_ es .nilFunc rfl k
theorem zbup {G1:List V→M V} (h:Hp H0 H L) (Q:V→Heap→Prop) (hQ:∀ H',Hp H0 H' (tabT H.next :: L)→Q (.map (some H.next)) H'):wp (zq5 G1 zc3 zx4 []) Q H:=by
 show wp (zwj G1 zc3 zx4) Q H
 have e0:(some (.map true []):Option Blk)=some (.map true (([]:List (ByteArray × Fid)).map zlm)):=rfl
 (try simp (maxSteps:=999999) (disch:=try exact ZD) only[ZB,zwj,zbqh,e0,zv6,stSF])
 have e1:zif (zif (zif (zif (zif (zif (zif (zif (zif (zif (zif (zif (zif (zif (zif (zif [] (⟨#[109,105,108,108,105,115]⟩:ByteArray) (⟨zbt⟩:Fid)) ⟨#[102,114,97,109,101]⟩ ⟨zbt⟩) ⟨#[105,100,108,101]⟩ ⟨zbt⟩) ⟨#[105,110]⟩ ⟨zb9⟩) ⟨#[111,117,116]⟩ ⟨zb9⟩) ⟨#[114,101,97,100]⟩ ⟨zca⟩) ⟨#[119,114,105,116,101]⟩ ⟨zca⟩) ⟨#[115,97,109,112,108,101]⟩ ⟨zcj⟩) ⟨#[113,117,101,117,101]⟩ ⟨zcj⟩) ⟨#[119,105,110,100,111,119]⟩ ⟨zcy⟩) ⟨#[101,110,103,105,110,101,101,114,115]⟩ ⟨zch⟩) ⟨#[117,110,105,116]⟩ ⟨zdk⟩) ⟨#[103,101,116]⟩ ⟨zck⟩) ⟨#[112,117,116]⟩ ⟨zck⟩) ⟨#[117,115,101,114]⟩ ⟨zdl⟩) ⟨#[114,111,108,101]⟩ ⟨zdm⟩=tabF:=by kernel_rfl
 rw[e1]
 refine hQ _ (h.add (t:=tabT H.next) (Keeps.push _ _ _) (Heap.get_push_self _ _) (by simp[tabT]))
theorem zb0i {σ:zx} {g:Nat} {args:List V}:znw σ (.func (.func g) #[] #[]) args=σ g args:=by simp[znw]
noncomputable def zb4h (G:List V→M V):Kw→List V→M V
 | .single=>zei G zc3
 | .point=>ze5
 | .grant=>ze6 G zc3
 | .port=>zfn G zc3
 | .window=>zej G zc3
 | .engs=>zde G zc3
 | .unit=>zfo
 | .bind=>zfp G zc3
 | .user=>zfq G zx4
 | .role=>zfr G zc3
theorem zbxz {w:ByteArray} (h:kwOf w=some .single):w=zhz∨w=zkf∨w=zso:=by
 unfold kwOf at h
 by_cases h1:w=zhz
 ·exact .inl h1
 by_cases h2:w=zkf
 ·exact .inr (.inl h2)
 by_cases h3:w=zso
 ·exact .inr (.inr h3)
 rw[if_neg h1,if_neg h2,if_neg h3] at h
 by_cases g0:w=kIn
 ·rw[if_pos g0] at h;cases h
 rw[if_neg g0] at h
 by_cases g1:w=kOut
 ·rw[if_pos g1] at h;cases h
 rw[if_neg g1] at h
 by_cases g2:w=zbr4
 ·rw[if_pos g2] at h;cases h
 rw[if_neg g2] at h
 by_cases g3:w=zs5
 ·rw[if_pos g3] at h;cases h
 rw[if_neg g3] at h
 by_cases g4:w=zbhd
 ·rw[if_pos g4] at h;cases h
 rw[if_neg g4] at h
 by_cases g5:w=z2h
 ·rw[if_pos g5] at h;cases h
 rw[if_neg g5] at h
 by_cases g6:w=zbhe
 ·rw[if_pos g6] at h;cases h
 rw[if_neg g6] at h
 by_cases g7:w=zbvk
 ·rw[if_pos g7] at h;cases h
 rw[if_neg g7] at h
 by_cases g8:w=zbgo
 ·rw[if_pos g8] at h;cases h
 rw[if_neg g8] at h
 by_cases g9:w=z34
 ·rw[if_pos g9] at h;cases h
 rw[if_neg g9] at h
 by_cases g10:w=kPut
 ·rw[if_pos g10] at h;cases h
 rw[if_neg g10] at h
 by_cases g11:w=zbgp
 ·rw[if_pos g11] at h;cases h
 rw[if_neg g11] at h
 by_cases g12:w=zbvl
 ·rw[if_pos g12] at h;cases h
 rw[if_neg g12] at h
 cases h
theorem zb25 {G:List V→M V} {wv:V} {ws:List ByteArray} (hT:Tabs H0) (h:ReadAt H0 H R v st (view wv ws :: L)) (hs:Sm st 1000000) (hw:1≤ws.length) (hb:ws.length≤1000000) (hwz:∀ w∈ws,w.size≤1000000) (k:Kw) (hk:kwOf (wAt ws 0)=some k):zm4 H0 H R (view wv ws :: L) (doKw st ws k) (zb4h G k [ptr R 0,wv]):=by
 cases k with
 | single=>exact zbxy h hs hw hb hwz (zbxz hk)
 | point=>exact zb0e hT h hs hw
 | grant=>exact zb0f h hs hw hb hwz
 | port=>exact zb23 hT h hs hw hwz
 | window=>exact zbxx h hs hw hb hwz
 | engs=>exact zb2y h hs hw hb hwz
 | unit=>exact zb2z h hs
 | bind=>exact zb21 h hs hwz
 | user=>exact zb20 h hs hwz
 | role=>exact zb22 hT h hs hwz
theorem zbx0 (G:List V→M V) (k:Kw) (args:List V):znw (ovr [(zbt,zei G zc3),(zb9,ze5),(zca,ze6 G zc3),(zcj,zfn G zc3),(zcy,zej G zc3),(zch,zde G zc3),(zdk,zfo),(zck,zfp G zc3),(zdl,zfq G zx4),(zdm,zfr G zc3),(zcu,zpr),(zcv,zbr)] noC) (zo2 k).val args=zb4h G k args:=by
 unfold Fid.val
 rw[zb0i]
 cases k <;> rfl
end Go.AM.Cap

/- conf: a line, lines -/
set_option maxHeartbeats 16000000
namespace Go.AM.Cap
open Go.AM Go.Proofs
variable {H0 H:Heap} {R:Nat} {v:RV} {st:RSt} {L:List Thing}
theorem zbmy {c:BitVec 8} {s w:ByteArray} (h:w∈zc1 c s):w.size≤s.size:=by
 obtain⟨l,hl,rfl⟩:=List.mem_map.1 h
 rw[zbcl,← zci s]
 exact z2g c _ l hl
theorem zbj4 (c:BitVec 8) (s:ByteArray):(zc1 c s).length≤s.size + 1:=by
 rw[zc1,List.length_map,← zci s]
 exact zz2 c _
theorem zbj5 (c:BitVec 8) (s:ByteArray):1≤(zc1 c s).length:=by
 have:=zbmu c s
 cases h:zc1 c s with
 | nil=>exact absurd h this
 | cons a l=>simp
theorem zbfr:v.things R st L=v.things R st [] ++ L:=by
 simp only[RV.things,List.append_nil,List.cons_append,List.append_assoc]
theorem Hp.look {α:Type} [Flat α] {w:V} {xs:List α} (h:Hp H0 H (own w xs :: L)):Hp H0 H (view w xs :: L) :=
 ⟨h.keeps,fun t ht=>by
  rcases List.mem_cons.1 ht with rfl | ht
  ·exact h.new (own w xs) (by simp)
  ·exact h.new t (by simp[ht]),fun t ht=>by
  rcases List.mem_cons.1 ht with rfl | ht
  ·exact (h.own (i:=0) rfl).sl
  ·exact h.all t (by simp[ht]),by
  have:=List.pairwise_cons.1 h.apart
  exact List.pairwise_cons.2 ⟨this.1,this.2⟩⟩
theorem ReadAt.view_in {w:V} {ws:List ByteArray} {H':Heap} (h:ReadAt H0 H R v st L) (s:Hp H0 H' (own w ws :: v.things R st L)):ReadAt H0 H' R v st (view w ws :: L):=by
 refine⟨?_,h.uns,h.us⟩
 have s1:=Hp.look s
 rw[zbfr] at s1 ⊢
 exact s1.perm List.perm_middle.symm
theorem zb26 {G:List V→M V} {M:Nat} (hT:Tabs H0) (h:ReadAt H0 H R v st (tabT M :: L)) (hs:Sm st 1000000) (s:ByteArray) (hz:s.size≤100000) (Q:V→Heap→Prop)
  (hok:∀ st',z3t st s = .ok st'→∀ v' H',ReadAt H0 H' R v' st' (tabT M :: L)→Q (i64 0) H') (hbad:∀ e,z3t st s = .error e→e≠0→∀ H',Hp H0 H' (tabT M :: L)→Q (i64 e) H'):wp (zj4 zpr G zc3 zx4 [ptr R 0,.string s,.map (some M)]) Q H:=by
 show wp (zhp zpr G zc3 zx4 (ptr R 0) (.string s) (.map (some M))) Q H
 by_cases c1:s.size=0
 ·have e:z3t st s = .ok st:=by rw[z3t,if_pos (.inl c1)]
  have e1:decide (s=(⟨#[]⟩:ByteArray))=true:=decide_eq_true (zbgt c1)
  (try simp (maxSteps:=999999) (disch:=try exact ZD) only[ZB,zhp,e1])
  exact hok _ e _ _ h
 have e1:decide (s=(⟨#[]⟩:ByteArray))=false:=decide_eq_false fun h=>c1 (by rw[h];rfl)
 have ix:=ztb (s:=s) (k := .i64) (i:=0) (by omega) (by omega)
 have hhd:(bv s).getD (0:Int).toNat 0=(bv s).headD 0:=by cases bv s <;> rfl
 rw[hhd] at ix
 have e35:(Value.int .u8 35:V)=B 35#8:=rfl
 by_cases c2:(bv s).headD 0=35#8
 ·have e:z3t st s = .ok st:=by rw[z3t,if_pos (.inr c2)]
  have e2:decide ((((bv s).headD 0).toNat:Int)=((35#8).toNat:Int))=true:=decide_eq_true (by rw[c2])
  (try simp (maxSteps:=999999) (disch:=try exact ZD) only[ZB,zhp,e1,ix,e35,e2])
  exact hok _ e _ _ h
 have e2:decide ((((bv s).headD 0).toNat:Int)=((35#8).toNat:Int))=false:=decide_eq_false fun q=>c2 (BitVec.eq_of_toNat_eq (by omega))
 have hline:z3t st s=match kwOf (wAt (zc1 32 s) 0) with
  | none => .error 3
  | some k=>if hasW (zc1 32 s) zol=true then .error 3 else match doKw st (zc1 32 s) k with
   | none => .error 3
   | some st'=>if hasW st.once (wAt (zc1 32 s) 0)=true then .error 6 else .ok st':=by
  rw[z3t,if_neg (by rintro (q | q);exact c1 q;exact c2 q)]
  rfl
 have hwz:∀ w∈zc1 32 s,w.size≤1000000:=fun w hw=>by have:=zbmy hw;omega
 have hwl:=zbj4 32 s
 have hwp:=zbj5 32 s
 generalize hws:zc1 32 s=ws at *
 (try simp (maxSteps:=999999) (disch:=try exact ZD) only[ZB,zhp,e1,ix,e35,e2,zuv])
 refine zbr9 (hT.ml.keep0 h.hp.keeps) h.hp s ⟨#[32]⟩ 32 (by decide) (by omega) _ fun w H1 k1 s1=>?_
 rw[hws] at s1
 have r1:=h.view_in s1
 obtain⟨a0,b0⟩:=wd0 r1.words (by omega)
 have gM:H1.get M=some (.map true (tabF.map zlm)):=r1.rest.all (tabT M) (by simp)
 have etab:=lkSF true tabF (wAt ws 0)
 rw[zb24] at etab
 cases hk:kwOf (wAt ws 0) with
 | none =>
  rw[hk] at hline etab
  have et:zyd (some (.map true (tabF.map zlm))) (.one .s) .nilFunc false (.string (wAt ws 0))=some .nilFunc:=etab
  have en:zer false (zef .f (.nilFunc:V))=some (.bool true):=rfl
  (try simp (maxSteps:=999999) (disch:=try exact ZD) only[ZB,a0,b0,zhh,gM,et,en])
  exact hbad 3 hline (by decide) _ r1.rest.tail
 | some k =>
  rw[hk] at hline etab
  have et:zyd (some (.map true (tabF.map zlm))) (.one .s) .nilFunc false (.string (wAt ws 0))=some (zo2 k).val:=etab
  have en:zer false (zef .f (zo2 k).val)=some (.bool false):=by cases k <;> rfl
  (try simp (maxSteps:=999999) (disch:=try exact ZD) only[ZB,a0,b0,zhh,gM,et,en])
  refine zbd7 r1.words (by omega) _ _ ?_
  cases hn:hasW ws zol with
  | true =>
   simp only[hn,if_true] at hline
   have hn':hasW ws (⟨#[]⟩:ByteArray)=true:=hn
   (try simp (maxSteps:=999999) (disch:=try exact ZD) only[ZB,hn'])
   exact hbad 3 hline (by decide) _ r1.rest.tail
  | false =>
   simp only[hn] at hline
   have g:=r1.get
   have hone:=r1.hp.own (i:=7) rfl
   unfold RV.cells at g
   have hn':hasW ws (⟨#[]⟩:ByteArray)=false:=hn
   (try simp (maxSteps:=999999) (disch:=try exact ZD) only[ZB,hn',zuu,g,a0,b0])
   refine zbd7 hone.sl (by have:=hs.once;omega) (wAt ws 0) _ ?_
   (try simp (maxSteps:=999999) (disch:=try exact ZD) only[ZB,zbx0])
   refine zb25 hT r1 hs (by omega) (by omega) hwz k hk _ (fun st' hst v' H2 r2=>?_) fun hst H2 s2=>?_
   ·rw[hst] at hline
    cases ho:hasW st.once (wAt ws 0) with
    | true =>
     simp only[ho,if_true] at hline
     (try simp (maxSteps:=999999) (disch:=try exact ZD) only[ZB])
     exact hbad 6 hline (by decide) _ r2.rest.tail
    | false =>
     simp only[ho] at hline
     (try simp (maxSteps:=999999) (disch:=try exact ZD) only[ZB,zut])
     refine hok st' hline v' _ ⟨?_,r2.uns,r2.us⟩
     have:=r2.hp
     rw[zbfr] at this ⊢
     exact (this.perm List.perm_middle).tail
   ·rw[hst] at hline
    (try simp (maxSteps:=999999) (disch:=try exact ZD) only[ZB])
    exact hbad 3 hline (by decide) _ s2.tail
end Go.AM.Cap

/- conf: lines, one behind the other -/
set_option maxHeartbeats 16000000
namespace Go.AM.Cap
open Go.AM Go.Proofs
variable {H0 H:Heap} {R:Nat} {v:RV} {st:RSt} {L:List Thing}
theorem Sm.mono {n m:Nat} (h:Sm st n) (hm:n≤m):Sm st m:=⟨by have:=h.pts;omega,by have:=h.grs;omega,by have:=h.prs;omega,by have:=h.wins;omega,by have:=h.uns;omega,by have:=h.us;omega,by have:=h.once;omega,fun u hu=>by have:=h.inn u hu;omega,fun u hu=>by have:=h.rol u hu;omega⟩
theorem zbj6 {ws:List ByteArray} {n:Nat} {f:List Int→RSt} {st':RSt} (h:(zm3 ws n).map f=some st'):∃ l,st'=f l:=by
 cases hn:zm3 ws n with
 | none=>rw[hn] at h;cases h
 | some l=>rw[hn] at h;cases h;exact⟨l,rfl⟩
theorem zb27 {st:RSt} {n:Nat} (h:Sm st n) (hne:st.sy.uns≠[]) (g:Bool) (b:Bd):Sm (addB st g b) (n + 1):=by
 have h1:=h.mono (Nat.le_succ n)
 have hm:zbvm st.sy.uns∈st.sy.uns:=zbh (by cases hu:st.sy.uns with | nil=>exact absurd hu hne | cons a l=>simp)
 have hi:=h.inn _ hm
 refine⟨h1.pts,h1.grs,h1.prs,h1.wins,?_,h1.us,h1.once,fun u hu=>?_,h1.rol⟩
 ·simp only[addB,List.length_set];exact h1.uns
 ·simp only[addB] at hu
  rcases List.mem_or_eq_of_mem_set hu with q | rfl
  ·exact h1.inn u q
  ·cases g <;> simp <;> omega
theorem zb28 {st:RSt} {n:Nat} (h:Sm st n) (hne:st.us≠[]) (r:Rl):Sm (addR st r) (n + 1):=by
 have h1:=h.mono (Nat.le_succ n)
 have hm:st.us.getD (st.us.length - 1) default∈st.us:=zbh (by cases hu:st.us with | nil=>exact absurd hu hne | cons a l=>simp)
 have hi:=h.rol _ hm
 refine⟨h1.pts,h1.grs,h1.prs,h1.wins,h1.uns,?_,h1.once,h1.inn,fun u hu=>?_⟩
 ·simp only[addR,List.length_set];exact h1.us
 ·simp only[addR] at hu
  rcases List.mem_or_eq_of_mem_set hu with q | rfl
  ·exact h1.rol u q
  ·show (_ ++ [r]).length≤n + 1
   rw[List.length_append]
   exact Nat.succ_le_succ hi
theorem zb29 {ws:List ByteArray} {k:Kw} {st':RSt} {n:Nat} (h:Sm st n) (hd:doKw st ws k=some st'):Sm st' (n + 1):=by
 have h1:=h.mono (Nat.le_succ n)
 cases k with
 | single =>
  obtain⟨l,rfl⟩:=zbj6 hd
  have ho:(st.once ++ [wAt ws 0]).length≤n + 1:=by have:=h.once;simp;omega
  unfold zo8
  by_cases c1:wAt ws 0=zhz
  ·rw[if_pos c1];exact⟨h1.pts,h1.grs,h1.prs,h1.wins,h1.uns,h1.us,ho,h1.inn,h1.rol⟩
  rw[if_neg c1]
  by_cases c2:wAt ws 0=zkf
  ·rw[if_pos c2];exact⟨h1.pts,h1.grs,h1.prs,h1.wins,h1.uns,h1.us,ho,h1.inn,h1.rol⟩
  ·rw[if_neg c2];exact⟨h1.pts,h1.grs,h1.prs,h1.wins,h1.uns,h1.us,ho,h1.inn,h1.rol⟩
 | point =>
  simp only[doKw,zvp] at hd
  by_cases c:ws.length=2∧zgk (wAt ws 1)≠0
  ·rw[if_pos c] at hd;cases hd
   exact⟨by have:=h.pts;simp[addP];omega,h1.grs,h1.prs,h1.wins,h1.uns,h1.us,h1.once,h1.inn,h1.rol⟩
  ·rw[if_neg c] at hd;cases hd
 | grant =>
  simp only[doKw,z2i] at hd
  cases hn:zm3 (ws.drop 1) 2 with
  | none=>rw[hn] at hd;cases hd
  | some l=>rw[hn] at hd;cases hd;exact⟨h1.pts,by have:=h.grs;simp[addG];omega,h1.prs,h1.wins,h1.uns,h1.us,h1.once,h1.inn,h1.rol⟩
 | port =>
  simp only[doKw,z7h] at hd
  by_cases c:ws.length=(if decide (wAt ws 0=z2h)=true then 5 else 4)∧zgk (wAt ws 3)≠0
  ·rw[if_pos c] at hd
   cases hn:zm3 ((ws.drop 1).take 2 ++ ws.drop 4) (if decide (wAt ws 0=z2h)=true then 3 else 2) with
   | none=>rw[hn] at hd;cases hd
   | some l=>rw[hn] at hd;cases hd;exact⟨h1.pts,h1.grs,by have:=h.prs;simp[addQ];omega,h1.wins,h1.uns,h1.us,h1.once,h1.inn,h1.rol⟩
  ·rw[if_neg c] at hd;cases hd
 | window =>
  simp only[doKw,zxq] at hd
  cases hn:zm3 (ws.drop 1) 3 with
  | none=>rw[hn] at hd;cases hd
  | some l=>rw[hn] at hd;cases hd;exact⟨h1.pts,h1.grs,h1.prs,by have:=h.wins;simp[addW];omega,h1.uns,h1.us,h1.once,h1.inn,h1.rol⟩
 | engs =>
  simp only[doKw,zbbn] at hd
  cases hn:zm3 (ws.drop 1) 2 with
  | none=>rw[hn] at hd;cases hd
  | some l=>rw[hn] at hd;cases hd;exact⟨h1.pts,h1.grs,h1.prs,by have:=h.wins;simp[addW];omega,h1.uns,h1.us,h1.once,h1.inn,h1.rol⟩
 | unit =>
  simp only[doKw,zbbo] at hd
  by_cases c:ws.length=1
  ·rw[if_pos c] at hd;cases hd
   refine⟨h1.pts,h1.grs,h1.prs,h1.wins,by have:=h.uns;simp[addU];omega,h1.us,h1.once,fun u hu=>?_,h1.rol⟩
   simp only[addU] at hu
   rcases List.mem_append.1 hu with q | q
   ·exact h1.inn u q
   ·simp at q;subst q;simp
  ·rw[if_neg c] at hd;cases hd
 | bind =>
  simp only[doKw,zs6] at hd
  by_cases c:ws.length=3∧st.sy.uns≠[]∧zfa (wAt ws 1)≠0∧(zz3 (wAt ws 2)).2=true
  ·rw[if_pos c] at hd;cases hd;exact zb27 h c.2.1 _ _
  ·rw[if_neg c] at hd;cases hd
 | user =>
  simp only[doKw,z2j] at hd
  by_cases c:ws.length=3
  ·rw[if_pos c] at hd
   cases hn:zom (bv (wAt ws 2)) with
   | none=>rw[hn] at hd;cases hd
   | some r =>
    rw[hn] at hd;cases hd
    refine⟨h1.pts,h1.grs,h1.prs,h1.wins,h1.uns,by have:=h.us;simp[addS];omega,h1.once,h1.inn,fun u hu=>?_⟩
    simp only[addS] at hu
    rcases List.mem_append.1 hu with q | q
    ·exact h1.rol u q
    ·simp at q;subst q;simp
  ·rw[if_neg c] at hd;cases hd
 | role =>
  simp only[doKw,zs7] at hd
  by_cases c:ws.length=3∧st.us≠[]∧zhs (wAt ws 2)≠0∧(zz3 (wAt ws 1)).2=true
  ·rw[if_pos c] at hd;cases hd;exact zb28 h c.2.1 _
  ·rw[if_neg c] at hd;cases hd
theorem zb0j {s:ByteArray} {st':RSt} {n:Nat} (h:Sm st n) (hd:z3t st s = .ok st'):Sm st' (n + 1):=by
 unfold z3t at hd
 by_cases c1:s.size=0∨(bv s).headD 0=35#8
 ·rw[if_pos c1] at hd;cases hd;exact h.mono (Nat.le_succ n)
 rw[if_neg c1] at hd
 simp only at hd
 cases hk:kwOf (wAt (zc1 32 s) 0) with
 | none=>rw[hk] at hd;cases hd
 | some k =>
  rw[hk] at hd
  simp only at hd
  by_cases c2:hasW (zc1 32 s) zol=true
  ·rw[if_pos c2] at hd;cases hd
  rw[if_neg c2] at hd
  cases hm:doKw st (zc1 32 s) k with
  | none=>rw[hm] at hd;cases hd
  | some st2 =>
   rw[hm] at hd
   simp only at hd
   by_cases c3:hasW st.once (wAt (zc1 32 s) 0)=true
   ·rw[if_pos c3] at hd;cases hd
   rw[if_neg c3] at hd;cases hd
   exact zb29 h hm
theorem sm0:Sm z03 0:=⟨by simp[z03],by simp[z03],by simp[z03],by simp[z03],by simp[z03],by simp[z03],by simp[z03],by simp[z03],by simp[z03]⟩
def z9:List V:=[.slice none 0 0,.slice none 0 0,.slice none 0 0,i64 0,.slice none 0 0,.slice none 0 0,i64 0,.slice none 0 0,i64 0]
def rv0:RV:=⟨.slice none 0 0,.slice none 0 0,.slice none 0 0,.slice none 0 0,.slice none 0 0,.slice none 0 0,.slice none 0 0,[],[]⟩
theorem zbo8 (h:Hp H0 H L):ReadAt H0 (H.push (some (.cells true [.slice none 0 0,.slice none 0 0,.slice none 0 0,i64 0,.slice none 0 0,.slice none 0 0,i64 0,.slice none 0 0,i64 0,.slice none 0 0]))) H.next rv0 z03 L:=by
 refine⟨?_,rfl,rfl⟩
 have s:=h.newc [.slice none 0 0,.slice none 0 0,.slice none 0 0,i64 0,.slice none 0 0,.slice none 0 0,i64 0,.slice none 0 0,i64 0,.slice none 0 0]
 have s1:=Hp.nilAt (α:=ByteArray) (A:=[cel H.next [.slice none 0 0,.slice none 0 0,.slice none 0 0,i64 0,.slice none 0 0,.slice none 0 0,i64 0,.slice none 0 0,i64 0,.slice none 0 0]]) (B:=L) s
 have s2:=Hp.nilAt (α:=Us) (A:=[cel H.next [.slice none 0 0,.slice none 0 0,.slice none 0 0,i64 0,.slice none 0 0,.slice none 0 0,i64 0,.slice none 0 0,i64 0,.slice none 0 0]]) s1
 have s3:=Hp.nilAt (α:=Un) (A:=[cel H.next [.slice none 0 0,.slice none 0 0,.slice none 0 0,i64 0,.slice none 0 0,.slice none 0 0,i64 0,.slice none 0 0,i64 0,.slice none 0 0]]) s2
 have s4:=Hp.nilAt (α:=Win) (A:=[cel H.next [.slice none 0 0,.slice none 0 0,.slice none 0 0,i64 0,.slice none 0 0,.slice none 0 0,i64 0,.slice none 0 0,i64 0,.slice none 0 0]]) s3
 have s5:=Hp.nilAt (α:=Port) (A:=[cel H.next [.slice none 0 0,.slice none 0 0,.slice none 0 0,i64 0,.slice none 0 0,.slice none 0 0,i64 0,.slice none 0 0,i64 0,.slice none 0 0]]) s4
 have s6:=Hp.nilAt (α:=Gr) (A:=[cel H.next [.slice none 0 0,.slice none 0 0,.slice none 0 0,i64 0,.slice none 0 0,.slice none 0 0,i64 0,.slice none 0 0,i64 0,.slice none 0 0]]) s5
 have s7:=Hp.nilAt (α:=Pt) (A:=[cel H.next [.slice none 0 0,.slice none 0 0,.slice none 0 0,i64 0,.slice none 0 0,.slice none 0 0,i64 0,.slice none 0 0,i64 0,.slice none 0 0]]) s6
 exact s7
theorem zb3a {G:List V→M V} {lv:V} {ls:List ByteArray} (hT:Tabs H) (hl:Sl H lv ls) (hn:ls.length≤100000) (hz:∀ s∈ls,s.size≤100000) (Q:V→Heap→Prop)
  (hok:∀ st,zyv z03 0 ls = .ok st→∀ v R H' L,ReadAt H H' R v st L→Sm st ls.length→Q (.tuple #[.agg ((v.cells st).take 9).toArray,i64 0,i64 0]) H')
  (hbad:∀ n e,zyv z03 0 ls = .error (n,e)→e≠0→∀ H',Keeps [] H H'→Q (.tuple #[.agg z9.toArray,i64 n,i64 e]) H'):wp (zyf G zc3 zx4 zpr [lv]) Q H:=by
 show wp (z47 G zc3 zx4 zpr lv) Q H
 have hlen:=hl.len
 have s1:Hp H (H.push (some (.cells true z9))) [cel H.next z9]:=(Hp.start H).newc _
 have eb:build [(Value.slice none 0 0:V),Value.slice none 0 0,Value.slice none 0 0,Value.int .i64 0,Value.slice none 0 0,Value.slice none 0 0,Value.int .i64 0,Value.slice none 0 0,Value.int .i64 0,Value.slice none 0 0] []=some (.agg [.slice none 0 0,.slice none 0 0,.slice none 0 0,i64 0,.slice none 0 0,.slice none 0 0,i64 0,.slice none 0 0,i64 0,.slice none 0 0].toArray):=rfl
 have ez:build [(Value.slice none 0 0:V),Value.slice none 0 0,Value.slice none 0 0,Value.int .i64 0,Value.slice none 0 0,Value.slice none 0 0,Value.int .i64 0,Value.slice none 0 0,Value.int .i64 0] []=some (.agg z9.toArray):=rfl
 unfold z47
 rw[z7,z7]
 refine (zbck (by decide)).mpr ?_
 change wp _ _ (H.push (some (.cells true z9)))
 generalize hP:H.next=P at *
 generalize H.push (some (.cells true z9))=H1 at *
 rw[z7,eb,zbg9,zbcj,z7]
 refine (zb0 rfl).mpr ?_
 have r1:=zbo8 s1
 generalize hR:H1.next=R at *
 generalize H1.push (some (.cells true [.slice none 0 0,.slice none 0 0,.slice none 0 0,i64 0,.slice none 0 0,.slice none 0 0,i64 0,.slice none 0 0,i64 0,(.slice none 0 0:V)]))=H2 at *
 rw[z7]
 refine zbup r1.hp _ fun H3 s3=>?_
 generalize H2.next=M at *
 have r3:ReadAt H H3 R rv0 z03 (tabT M :: [cel P z9]):=by
  refine⟨?_,rfl,rfl⟩
  rw[zbfr] at s3 ⊢
  exact s3.perm List.perm_middle.symm
 (try simp (maxSteps:=999999) (disch:=try exact ZD) only[ZB,hlen])
 refine zbo ls.length (by omega) (fun j vs H'=>∃ v st,vs=[ptr P 0,ptr R 0,.map (some M),lv,i64 ls.length,i64 j]∧ReadAt H H' R v st (tabT M :: [cel P z9])∧Sm st j∧zyv st j (ls.drop j)=zyv z03 0 ls) ⟨rv0,z03,rfl,r3,sm0,rfl⟩ ?_
 rintro j vs H4 hj ⟨v,st,rfl,r4,sm4,hrd⟩
 have gP:=r4.rest.get (i:=1) rfl
 have nP:=Heap.get_lt gP
 by_cases hlt:j < ls.length
 ·rw[zbaa ls j zol hlt,zyv] at hrd
  have hsl:=hl.keep0 r4.hp.keeps
  obtain⟨a1,c1⟩:=z77 hsl hlt
  (try simp (maxSteps:=999999) (disch:=try exact ZD) only[ZA,zn,zk,zi,zj,zg,ze,z1u,zbcu,a1,c1])
  refine zb26 hT r4 (sm4.mono (by omega)) (wAt ls j) (hz _ (zbd8 hlt)) _ (fun st' hst v' H5 r5=>?_) fun e he hne H5 s5=>?_
  ·rw[hst] at hrd
   (try simp (maxSteps:=999999) (disch:=try exact ZD) only[ZB,zbct])
   exact⟨hlt,v',st',rfl,r5,zb0j sm4 hst,hrd⟩
  ·rw[he] at hrd
   simp only at hrd
   have e1:decide (e≠0)=true:=decide_eq_true hne
   have g5:=s5.get (i:=1) rfl
   have n5:=Heap.get_lt g5
   have h9:z9.length=9:=rfl
   have w9:=fun Q=>zft (n:=9) (Q:=Q) g5 h9 h9 (by decide:z9.all Value.isOne=true)
   (try simp (maxSteps:=999999) (disch:=try exact ZD) only[ZA,zn,zk,zi,zj,zg,ze,e1,ez,w9])
   have gz:=Heap.get_set_eq (x:=some (.cells true z9)) n5
   have d9:=fun Q=>zbb (n:=9) (Q:=Q) gz h9
   have q:=hbad (j + 1) e hrd.symm hne (H5.set P (some (.cells true z9))) (s5.keeps.trans (Keeps.set (S:=[P]) (by simp)) (fun b hb hm=>by simp at hm;omega))
   push_cast at q
   (try simp (maxSteps:=999999) (disch:=try exact ZD) only[ZA,zo,zn,zm,zk,zi,zj,zg,ze,d9])
   exact q
 ·have:j=ls.length:=by omega
  subst this
  rw[List.drop_length,zyv] at hrd
  have g4:=r4.get
  have h9:((v.cells st).take 9).length=9:=rfl
  have hone:((v.cells st).take 9).all Value.isOne=true:=by
   have o1:=(r4.hp.own (i:=1) rfl).isOne
   have o2:=(r4.hp.own (i:=2) rfl).isOne
   have o3:=(r4.hp.own (i:=3) rfl).isOne
   have o4:=(r4.hp.own (i:=4) rfl).isOne
   have o5:=(r4.hp.own (i:=5) rfl).isOne
   have o6:=(r4.hp.own (i:=6) rfl).isOne
   simp[RV.cells,o1,o2,o3,o4,o5,o6]
  have d4:∀ Q,wp (ldn 9 (ptr R 0)) Q H4↔Q (.agg ((v.cells st).take 9).toArray) H4:=fun Q=>by
   rw[zbz,g4,zy2 (by show 0 + 9≤10;omega)]
   rfl
  have w9:=fun Q=>zft (n:=9) (Q:=Q) gP (rfl:z9.length=9) h9 hone
  (try simp (maxSteps:=999999) (disch:=try exact ZD) only[ZA,zn,zm,zk,zi,zj,zg,ze,z1u,zbcv,d4,w9])
  have gz:=Heap.get_set_eq (x:=some (.cells true ((v.cells st).take 9))) nP
  have d9:=fun Q=>zbb (n:=9) (Q:=Q) gz h9
  have s5:Hp H _ _:=r4.hp.set (i:=((unT v.uns).length + ((usT v.uz).length + 1)) + 8) (d:=P) (cs:=z9) (by
   show (unT v.uns ++ (usT v.uz ++ (tabT M :: [cel P z9])))[(unT v.uns).length + ((usT v.uz).length + 1)]? = _
   rw[zbd9,zbd9];rfl) ((v.cells st).take 9)
  have q:=hok st hrd.symm v R (H4.set P (some (.cells true ((v.cells st).take 9)))) (tabT M :: [cel P ((v.cells st).take 9)]) ⟨by
   have e:(RV.things R v st (tabT M :: [cel P z9])).set (((unT v.uns).length + ((usT v.uz).length + 1)) + 8) (cel P ((v.cells st).take 9))=RV.things R v st (tabT M :: [cel P ((v.cells st).take 9)]):=by
    have:∀ k:Nat,(RV.things R v st (tabT M :: [cel P z9])).set (k + 8) (cel P ((v.cells st).take 9))=cel R (v.cells st) :: own v.pv st.sy.pts :: own v.gv st.sy.grs :: own v.qv st.sy.prs :: own v.wv st.sy.wins :: own v.uv v.uns :: own v.sv v.uz :: own v.ov st.once :: ((unT v.uns ++ (usT v.uz ++ (tabT M :: [cel P z9]))).set k (cel P ((v.cells st).take 9))):=fun k=>rfl
    rw[this,zbj3,zbj3]
    rfl
   rw[e] at s5
   exact s5,r4.uns,r4.us⟩ sm4
  (try simp (maxSteps:=999999) (disch:=try exact ZD) only[ZA,zo,zn,zm,zk,zi,zj,zg,ze,d9])
  exact q
end Go.AM.Cap
