import Derived.Test.YtjchglndancedaaGreatDoorCfBv
import Derived.Test.YtjchglndancedaaGreatDoorJConf
import Derived.Test.YtjchglndancedaaGreatDoorAmIn
set_option linter.all false
/- conf: ConfBack, the walk -/
set_option maxHeartbeats 16000000
namespace Go.AM.Cap
open Go.AM Go.Proofs
variable {H:Heap}
theorem zbqq {st:RSt} {s:ByteArray} {e:Int} (h:zsf st s = .error e):e≠0:=by
 unfold zsf at h
 by_cases c:s.size=0∨(bv s).headD 0=35#8
 ·rw[if_pos c] at h;cases h
 rw[if_neg c] at h
 simp only at h
 cases hk:kwOf (wAt (zbv 32 s) 0) with
 | none=>rw[hk] at h;cases h;decide
 | some k =>
  rw[hk] at h
  simp only at h
  by_cases c2:zvv (zbv 32 s) zh4=true
  ·rw[if_pos c2] at h;cases h;decide
  rw[if_neg c2] at h
  cases hd:z3d st (zbv 32 s) k with
  | none=>rw[hd] at h;cases h;decide
  | some st' =>
   rw[hd] at h
   simp only at h
   by_cases c3:zvv st.once (wAt (zbv 32 s) 0)=true
   ·rw[if_pos c3] at h;cases h;decide
   ·rw[if_neg c3] at h;cases h
theorem zbgx:∀ {l:List ByteArray} {st:RSt} {i n:Nat} {e:Int},zon st i l = .error (n,e)→e≠0
 | [],st,i,n,e,h=>by rw[zon] at h;cases h
 | s :: l,st,i,n,e,h=>by
  rw[zon] at h
  cases hl:zsf st s with
  | error e' =>
   rw[hl] at h
   simp only[Except.error.injEq,Prod.mk.injEq] at h
   rw[← h.2];exact zbqq hl
  | ok st'=>rw[hl] at h;exact zbgx h
theorem zblj (t:ByteArray):((zhx t).2.2≠0∧(zhx t).1=se0)∨((zhx t).2.2=0∧zou (zhx t).1.sy (zhx t).1.us (zhx t).1.idle=0):=by
 by_cases c1:t.size > 65536
 ·rw[zhx,if_pos c1];exact .inl ⟨by decide,rfl⟩
 rw[zhx,if_neg c1]
 simp only
 cases hr:zon zra 0 (zbv 10 t).dropLast with
 | error ne =>
  obtain⟨n,e⟩:=ne
  exact .inl ⟨zbgx hr,rfl⟩
 | ok st =>
  simp only
  by_cases c2:(zbv 10 t).getLastD zh4≠zh4
  ·rw[if_pos c2];exact .inl ⟨show (3:Int)≠0 by decide,rfl⟩
  rw[if_neg c2]
  by_cases c3:zou st.sy st.us st.idle≠0
  ·rw[if_pos c3];exact .inl ⟨c3,rfl⟩
  ·rw[if_neg c3];exact .inr ⟨rfl,Decidable.not_not.1 c3⟩
theorem zbxh {K:Heap}:∀ Q,wp (newc [Value.slice none 0 0,Value.slice none 0 0,Value.slice none 0 0,Value.int .i64 0,Value.slice none 0 0,Value.slice none 0 0,Value.int .i64 0,Value.slice none 0 0,Value.int .i64 0]) Q K↔Q (ptr K.next 0) (K.push (some (.cells true z9))):=fun Q=>z3x (by decide)
theorem zblk {G:List V→M V} {cs:List V} {s:Se3} (hP:zj4 H) (hT:Tabs H) (h:zkr H cs s) (hg:s.sy.grs.length≤1000) (Q:V→Heap→Prop)
  (hQ:∀ H',Keeps [] H H'→Q (.tuple #[.string (z3j s).1,i64 (z3j s).2]) H'):wp (zom G zii ze2 zij zvy zvz [.agg cs.toArray]) Q H:=by
 obtain⟨x,w,l,rfl,h1,h2,h3⟩:=h
 exact zbwi hP hT h1 h2 h3 (fun hn=>zbwl hn hg) Q hQ
theorem zbll {s:Se3} (h:zou s.sy s.us s.idle=0):z3j s=(zh4,2)∨∃ T,z3j s=(T,0)∧zhx T=(s,0,0):=by
 by_cases hl:(zwv s).length > 65536
 ·exact .inl (by rw[z3j,if_neg (fun q=>q h),if_pos hl])
 ·exact .inr ⟨_,by rw[z3j,if_neg (fun q=>q h),if_neg hl],zbqp h hl⟩
theorem zblm {s:Se3} (h:zou s.sy s.us s.idle=0):(∀ u∈s.sy.uns,u.ins.length≤1000000000∧u.outs.length≤1000000000)∧s.us.length≤1000000000:=by
 obtain⟨h1,h2,_⟩:=zbit h
 obtain⟨u1,_⟩:=zbnj h2
 exact⟨fun u hu=>by
  obtain⟨⟨a,b,_⟩,_⟩:=zbtu h1 u hu
  omega,by omega⟩
theorem zkr.lens {cs:List V} {s:Se3} (h:zkr H cs s):∃ g u w,cs[1]? = some g∧cs[5]? = some u∧cs[7]? = some w∧zv g=some (i64 s.sy.grs.length)∧zv u=some (i64 s.sy.uns.length)∧zv w=some (i64 s.us.length):=by
 obtain⟨x,w,l,rfl,h1,h2,h3⟩:=h
 obtain⟨ul,hU,hul⟩:=h1.uns
 refine⟨x.gv,x.uv,w,rfl,rfl,rfl,h1.grs.len,?_,?_⟩
 ·rw[hU.out.len,← hul,List.length_map]
 ·rw[h2.out.len,← h3,List.length_map]
theorem zb0x {G:List V→M V} {p:Nat} {cs:List V} {s:Se3} (hP:zj4 H) (hT:Tabs H) (hg:H.get p=some (.cells true cs)) (h:zkr H cs s) (hgs:s.sy.grs.length≤200) (hn:zou s.sy s.us s.idle=0) (Q:Out→Heap→Prop) (hQ:∀ H',Q (.ret [.bool true]) H') :
  wp (zp6 zkk G zcn zsu zii ze2 zij zvy zvz [ptr p 0]) Q H:=by
 obtain⟨h9,o9⟩:=h.nine
 have d9:=fun Q=>zbc (n:=9) (Q:=Q) hg h9
 unfold zp6
 simp only[z6,zbbu,d9]
 refine zblk hP hT h (by omega) _ fun H1 k1=>?_
 have t0:decide (zh4=(⟨#[]⟩:ByteArray))=true:=by decide
 rcases zbll hn with e | ⟨T,e,hpar⟩
 ·rw[e]
  have t1:decide ((2:Int)=2)=true:=rfl
  (try simp(maxSteps:=1000000)(disch:=first|omega|(simp only[Z3];omega)|(simp;done)|assumption|decide|(apply not_not_intro;assumption))only[ZB,t0,t1])
  exact hQ _
 rw[e]
 have t1:decide ((0:Int)=2)=false:=by decide
 (try simp(maxSteps:=1000000)(disch:=first|omega|(simp only[Z3];omega)|(simp;done)|assumption|decide|(apply not_not_intro;assumption))only[ZB,t1])
 unfold zwr
 simp only[z6,zbbu,zbhe]
 refine z3g (hT.keep0 k1) T _ fun ds H2 h2 k2=>?_
 rw[hpar] at h2 ⊢
 obtain⟨h9',o9'⟩:=h2.nine
 have k02:=k1.trans k2 (fun _ _ h=>h)
 have g3:(H2.push (some (.cells true z9))).get H2.next=some (.cells true z9):=Heap.get_push_self _ _
 have w3:=fun Q=>zc4 (n:=9) (Q:=Q) g3 rfl h9' o9'
 simp only[z6,zzi,zj7,List.getElem?_cons_zero,List.getElem?_cons_succ,zum,zbxh,w3]
 have k4:Keeps [] H2 ((H2.push (some (.cells true z9))).set H2.next (some (.cells true ds))):=zbw (Keeps.push _ _ _) (.inr (Nat.le_refl _))
 have g4:((H2.push (some (.cells true z9))).set H2.next (some (.cells true ds))).get H2.next=some (.cells true ds):=Heap.get_set_self (by simp)
 generalize H2.next=q at *
 generalize (H2.push (some (.cells true z9))).set q (some (.cells true ds))=H4 at *
 have gp:=k4.get (k02.get hg (by simp)) (by simp)
 have hA:=(h.keep0 k02).keep0 k4
 have hB:=h2.keep0 k4
 obtain⟨b1,b2⟩:=zblm hn
 have fin:=zbog hA hB b1 b2
 have e1:=fun Q=>zbc (n:=9) (Q:=Q) gp h9
 have e2:=fun Q=>zbc (n:=9) (Q:=Q) g4 h9'
 have t2:decide ((0:Int)=0)=true:=rfl
 (try simp(maxSteps:=1000000)(disch:=first|omega|(simp only[Z3];omega)|(simp;done)|assumption|decide|(apply not_not_intro;assumption))only[ZA,zp,zo,zm,zk,zj,zi,zh,ze,t2,e1,e2])
 refine fin _ fun H5 k5=>?_
 (try simp(maxSteps:=1000000)(disch:=first|omega|(simp only[Z3];omega)|(simp;done)|assumption|decide|(apply not_not_intro;assumption))only[ZB])
 exact hQ _
theorem zb0y {G:List V→M V} (hP:zj4 H) (hT:Tabs H) (t:ByteArray) (Q:Out→Heap→Prop) (hQ:∀ H',Q (.ret [.bool true]) H') :
  wp (zkq zkk G zcn zsu zii ze2 zij zvy zvz [.string t]) Q H:=by
 unfold zkq
 simp only[z6,zbbu,zbhe]
 refine z3g hT t _ fun cs H1 h1 k1=>?_
 have hc:=zblj t
 generalize zhx t=P1 at *
 obtain⟨s,n,e⟩:=P1
 simp only at hc h1 ⊢
 obtain⟨h9,o9⟩:=h1.nine
 have g3:(H1.push (some (.cells true z9))).get H1.next=some (.cells true z9):=Heap.get_push_self _ _
 have w3:=fun Q=>zc4 (n:=9) (Q:=Q) g3 rfl h9 o9
 simp only[z6,zzi,zj7,List.getElem?_cons_zero,List.getElem?_cons_succ,zum,zbxh,w3]
 have k4:Keeps [] H1 ((H1.push (some (.cells true z9))).set H1.next (some (.cells true cs))):=zbw (Keeps.push _ _ _) (.inr (Nat.le_refl _))
 have g4:((H1.push (some (.cells true z9))).set H1.next (some (.cells true cs))).get H1.next=some (.cells true cs):=Heap.get_set_self (by simp)
 generalize H1.next=q at *
 generalize (H1.push (some (.cells true z9))).set q (some (.cells true cs))=H4 at *
 have k04:=k1.trans k4 (fun _ _ h=>h)
 have h4:=h1.keep0 k4
 obtain⟨g,u,w,c1,c5,c7,l1,l5,l7⟩:=h4.lens
 rcases hc with⟨he,rfl⟩ | ⟨he,hn⟩
 ·have t1:decide (e≠0)=true:=decide_eq_true he
  have t2:decide (e=0)=false:=decide_eq_false he
  have t3:decide ((((se0.us.length:Nat):Int))=0)=true:=rfl
  have t4:decide ((((se0.sy.uns.length:Nat):Int))=0)=true:=rfl
  (try simp(maxSteps:=1000000)(disch:=first|omega|(simp only[Z3];omega)|(simp;done)|assumption|decide|(apply not_not_intro;assumption))only[ZB,t1,t2,g4,c7,c5,l5,l7,t3,t4])
  exact hQ _
 subst he
 have t1:decide ((0:Int)≠0)=false:=by decide
 have t2:decide ((0:Int)=0)=true:=rfl
 by_cases hg:s.sy.grs.length > 200
 ·have t3:decide (((s.sy.grs.length:Nat):Int) > 200)=true:=decide_eq_true (by omega)
  (try simp(maxSteps:=1000000)(disch:=first|omega|(simp only[Z3];omega)|(simp;done)|assumption|decide|(apply not_not_intro;assumption))only[ZB,t1,t2,g4,c1,l1,t3])
  exact hQ _
 have t3:decide (((s.sy.grs.length:Nat):Int) > 200)=false:=decide_eq_false (by omega)
 (try simp(maxSteps:=1000000)(disch:=first|omega|(simp only[Z3];omega)|(simp;done)|assumption|decide|(apply not_not_intro;assumption))only[ZB,t1,g4,c1,l1,t3])
 exact zb0x (hP.keep0 k04) (hT.keep0 k04) g4 h4 (by omega) hn _ hQ
theorem back_ok {G:List V→M V} {cs:List V} {s:Se3} (hP:zj4 H) (hT:Tabs H) (h:zkr H cs s) (t:ByteArray) (Q:V→Heap→Prop) (hQ:∀ H',Q (.bool true) H') :
  wp (zyw zkk G zcn zsu zii ze2 zij zvy zvz [.agg cs.toArray,.string t]) Q H:=by
 show wp (zq7 zkk G zcn zsu zii ze2 zij zvy zvz (.agg cs.toArray) (.string t)) Q H
 obtain⟨h9,o9⟩:=h.nine
 have s1:Hp H (H.push (some (.cells true cs))) [cel H.next cs]:=(Hp.start H).newc _
 unfold zq7
 rw[z6,z6]
 refine (zcg o9).mpr ?_
 generalize H.push (some (.cells true cs))=H1 at *
 generalize H.next=P at *
 simp only[z6]
 refine zbs7 (hT.keep0 s1.keeps) _ fun H2 k2=>?_
 have s2:=s1.keep0 k2
 have g2:=s2.get (i:=0) rfl
 have h2:=h.keep0 s2.keeps
 obtain⟨g,u,w,c1,c5,c7,l1,l5,l7⟩:=h2.lens
 by_cases hg:s.sy.grs.length > 200
 ·have t3:decide (((s.sy.grs.length:Nat):Int) > 200)=true:=decide_eq_true (by omega)
  (try simp(maxSteps:=1000000)(disch:=first|omega|(simp only[Z3];omega)|(simp;done)|assumption|decide|(apply not_not_intro;assumption))only[ZB,zp7,g2,c1,l1,t3])
  exact hQ _
 have t3:decide (((s.sy.grs.length:Nat):Int) > 200)=false:=decide_eq_false (by omega)
 have d9:=fun Q=>zbc (n:=9) (Q:=Q) g2 h9
 have fin:∀ K,Keeps [] H K→wp (zkq zkk G zcn zsu zii ze2 zij zvy zvz [.string t]) (fun o H'=>wp (zbl o fun vs=>ret (zbh [(zd vs 0)])) Q H') K:=fun K hk =>
  zb0y (hP.keep0 hk) (hT.keep0 hk) t _ fun H'=>by
   (try simp(maxSteps:=1000000)(disch:=first|omega|(simp only[Z3];omega)|(simp;done)|assumption|decide|(apply not_not_intro;assumption))only[ZB])
   exact hQ _
 (try simp(maxSteps:=1000000)(disch:=first|omega|(simp only[Z3];omega)|(simp;done)|assumption|decide|(apply not_not_intro;assumption))only[ZA,zo,zm,zk,zj,zi,zh,ze,zp7,g2,c1,l1,t3,zws,d9])
 refine zblk (hP.keep0 s2.keeps) (hT.keep0 s2.keeps) h2 (by omega) _ fun H3 k3=>?_
 have s3:=s2.keep0 k3
 have t0:decide (zh4≠(⟨#[]⟩:ByteArray))=false:=by decide
 by_cases hn:zou s.sy s.us s.idle=0
 case neg =>
  have hsh:z3j s=(zh4,zou s.sy s.us s.idle):=by rw[z3j,if_pos hn]
  rw[hsh]
  have t1:decide (zou s.sy s.us s.idle=0)=false:=decide_eq_false hn
  (try simp(maxSteps:=1000000)(disch:=first|omega|(simp only[Z3];omega)|(simp;done)|assumption|decide|(apply not_not_intro;assumption))only[ZB,t1,t0])
  exact fin _ s3.keeps
 rcases zbll hn with e | ⟨T,e,hpar⟩
 ·rw[e]
  have t1:decide ((2:Int)=0)=false:=by decide
  (try simp(maxSteps:=1000000)(disch:=first|omega|(simp only[Z3];omega)|(simp;done)|assumption|decide|(apply not_not_intro;assumption))only[ZB,t1,t0])
  exact fin _ s3.keeps
 rw[e]
 have t1:decide ((0:Int)=0)=true:=rfl
 have t2:decide ((0:Int)≠0)=false:=by decide
 (try simp(maxSteps:=1000000)(disch:=first|omega|(simp only[Z3];omega)|(simp;done)|assumption|decide|(apply not_not_intro;assumption))only[ZA,zo,zm,zk,zj,zi,zh,ze,t1])
 refine z3g (hT.keep0 s3.keeps) T _ fun ds H4 h4 k4=>?_
 rw[hpar] at h4 ⊢
 have s4:=s3.keep0 k4
 obtain⟨h9',o9'⟩:=h4.nine
 have g4:(H4.push (some (.cells true z9))).get H4.next=some (.cells true z9):=Heap.get_push_self _ _
 have w4:=fun Q=>zc4 (n:=9) (Q:=Q) g4 rfl h9' o9'
 have e9:([Value.slice none 0 0,Value.slice none 0 0,Value.slice none 0 0,Value.int .i64 0,Value.slice none 0 0,Value.slice none 0 0,Value.int .i64 0,Value.slice none 0 0,Value.int .i64 0]:List V)=z9:=rfl
 simp only[e9,z6,zzi,zj7,List.getElem?_cons_zero,List.getElem?_cons_succ,zum,w4]
 have k5:Keeps [] H4 ((H4.push (some (.cells true z9))).set H4.next (some (.cells true ds))):=zbw (Keeps.push _ _ _) (.inr (Nat.le_refl _))
 have g5:((H4.push (some (.cells true z9))).set H4.next (some (.cells true ds))).get H4.next=some (.cells true ds):=Heap.get_set_self (by simp)
 generalize H4.next=q at *
 generalize (H4.push (some (.cells true z9))).set q (some (.cells true ds))=H5 at *
 have s5:=s4.keep0 k5
 have gp:=s5.get (i:=0) rfl
 have hA:=h.keep0 s5.keeps
 have hB:=h4.keep0 k5
 obtain⟨b1,b2⟩:=zblm hn
 have fin2:=zbog hA hB b1 b2
 have e1:=fun Q=>zbc (n:=9) (Q:=Q) gp h9
 have e2:=fun Q=>zbc (n:=9) (Q:=Q) g5 h9'
 (try simp(maxSteps:=1000000)(disch:=first|omega|(simp only[Z3];omega)|(simp;done)|assumption|decide|(apply not_not_intro;assumption))only[ZA,zp,zo,zm,zk,zj,zi,zh,ze,t2,e1,e2])
 refine fin2 _ fun H6 k6=>?_
 (try simp(maxSteps:=1000000)(disch:=first|omega|(simp only[Z3];omega)|(simp;done)|assumption|decide|(apply not_not_intro;assumption))only[ZB])
 exact fin _ (s5.keeps.trans k6 (fun _ _ h=>h))
end Go.AM.Cap
