import Derived.Test.YtjchglndancedaaGreatDoorCfT
import Derived.Test.YtjchglndancedaaGreatDoorAmIn
set_option linter.all false
/- conf: lines, one behind the other -/
set_option maxHeartbeats 16000000
namespace Go.AM.Cap
open Go.AM Go.Proofs
variable {H0 H:Heap} {R:Nat} {v:RV} {st:RSt} {L:List Thing}
theorem Sm.mono {n m:Nat} (h:Sm st n) (hm:n≤m):Sm st m:=⟨by have:=h.pts;omega,by have:=h.grs;omega,by have:=h.prs;omega,by have:=h.wins;omega,by have:=h.uns;omega,by have:=h.us;omega,by have:=h.once;omega,fun u hu=>by have:=h.inn u hu;omega,fun u hu=>by have:=h.rol u hu;omega⟩
theorem zbef {ws:List ByteArray} {n:Nat} {f:List Int→RSt} {st':RSt} (h:(zf9 ws n).map f=some st'):∃ l,st'=f l:=by
 cases hn:zf9 ws n with
 | none=>rw[hn] at h;cases h
 | some l=>rw[hn] at h;cases h;exact⟨l,rfl⟩
theorem zbvu {st:RSt} {n:Nat} (h:Sm st n) (hne:st.sy.uns≠[]) (g:Bool) (b:Bd):Sm (addB st g b) (n + 1):=by
 have h1:=h.mono (Nat.le_succ n)
 have hm:zbgm st.sy.uns∈st.sy.uns:=zb4 (by cases hu:st.sy.uns with | nil=>exact absurd hu hne | cons a l=>simp)
 have hi:=h.inn _ hm
 refine⟨h1.pts,h1.grs,h1.prs,h1.wins,?_,h1.us,h1.once,fun u hu=>?_,h1.rol⟩
 ·simp only[addB,List.length_set];exact h1.uns
 ·simp only[addB] at hu
  rcases List.mem_or_eq_of_mem_set hu with q | rfl
  ·exact h1.inn u q
  ·cases g <;> simp <;> omega
theorem zbvv {st:RSt} {n:Nat} (h:Sm st n) (hne:st.us≠[]) (r:Rl):Sm (addR st r) (n + 1):=by
 have h1:=h.mono (Nat.le_succ n)
 have hm:st.us.getD (st.us.length - 1) default∈st.us:=zb4 (by cases hu:st.us with | nil=>exact absurd hu hne | cons a l=>simp)
 have hi:=h.rol _ hm
 refine⟨h1.pts,h1.grs,h1.prs,h1.wins,h1.uns,?_,h1.once,h1.inn,fun u hu=>?_⟩
 ·simp only[addR,List.length_set];exact h1.us
 ·simp only[addR] at hu
  rcases List.mem_or_eq_of_mem_set hu with q | rfl
  ·exact h1.rol u q
  ·show (_ ++ [r]).length≤n + 1
   rw[List.length_append]
   exact Nat.succ_le_succ hi
theorem zbvw {ws:List ByteArray} {k:Kw} {st':RSt} {n:Nat} (h:Sm st n) (hd:z3d st ws k=some st'):Sm st' (n + 1):=by
 have h1:=h.mono (Nat.le_succ n)
 cases k with
 | single =>
  obtain⟨l,rfl⟩:=zbef hd
  have ho:(st.once ++ [wAt ws 0]).length≤n + 1:=by have:=h.once;simp;omega
  unfold zjq
  by_cases c1:wAt ws 0=zdv
  ·rw[if_pos c1];exact⟨h1.pts,h1.grs,h1.prs,h1.wins,h1.uns,h1.us,ho,h1.inn,h1.rol⟩
  rw[if_neg c1]
  by_cases c2:wAt ws 0=zgd
  ·rw[if_pos c2];exact⟨h1.pts,h1.grs,h1.prs,h1.wins,h1.uns,h1.us,ho,h1.inn,h1.rol⟩
  ·rw[if_neg c2];exact⟨h1.pts,h1.grs,h1.prs,h1.wins,h1.uns,h1.us,ho,h1.inn,h1.rol⟩
 | point =>
  simp only[z3d,zmk] at hd
  by_cases c:ws.length=2∧zf4 (wAt ws 1)≠0
  ·rw[if_pos c] at hd;cases hd
   exact⟨by have:=h.pts;simp[addP];omega,h1.grs,h1.prs,h1.wins,h1.uns,h1.us,h1.once,h1.inn,h1.rol⟩
  ·rw[if_neg c] at hd;cases hd
 | grant =>
  simp only[z3d,zqb] at hd
  cases hn:zf9 (ws.drop 1) 2 with
  | none=>rw[hn] at hd;cases hd
  | some l=>rw[hn] at hd;cases hd;exact⟨h1.pts,by have:=h.grs;simp[addG];omega,h1.prs,h1.wins,h1.uns,h1.us,h1.once,h1.inn,h1.rol⟩
 | port =>
  simp only[z3d,zst] at hd
  by_cases c:ws.length=(if decide (wAt ws 0=zkj)=true then 5 else 4)∧zf4 (wAt ws 3)≠0
  ·rw[if_pos c] at hd
   cases hn:zf9 ((ws.drop 1).take 2 ++ ws.drop 4) (if decide (wAt ws 0=zkj)=true then 3 else 2) with
   | none=>rw[hn] at hd;cases hd
   | some l=>rw[hn] at hd;cases hd;exact⟨h1.pts,h1.grs,by have:=h.prs;simp[addQ];omega,h1.wins,h1.uns,h1.us,h1.once,h1.inn,h1.rol⟩
  ·rw[if_neg c] at hd;cases hd
 | window =>
  simp only[z3d,zqc] at hd
  cases hn:zf9 (ws.drop 1) 3 with
  | none=>rw[hn] at hd;cases hd
  | some l=>rw[hn] at hd;cases hd;exact⟨h1.pts,h1.grs,h1.prs,by have:=h.wins;simp[z83];omega,h1.uns,h1.us,h1.once,h1.inn,h1.rol⟩
 | engs =>
  simp only[z3d,z0d] at hd
  cases hn:zf9 (ws.drop 1) 2 with
  | none=>rw[hn] at hd;cases hd
  | some l=>rw[hn] at hd;cases hd;exact⟨h1.pts,h1.grs,h1.prs,by have:=h.wins;simp[z83];omega,h1.uns,h1.us,h1.once,h1.inn,h1.rol⟩
 | unit =>
  simp only[z3d,z3c] at hd
  by_cases c:ws.length=1
  ·rw[if_pos c] at hd;cases hd
   refine⟨h1.pts,h1.grs,h1.prs,h1.wins,by have:=h.uns;simp[addU];omega,h1.us,h1.once,fun u hu=>?_,h1.rol⟩
   simp only[addU] at hu
   rcases List.mem_append.1 hu with q | q
   ·exact h1.inn u q
   ·simp at q;subst q;simp
  ·rw[if_neg c] at hd;cases hd
 | bind =>
  simp only[z3d,zlz] at hd
  by_cases c:ws.length=3∧st.sy.uns≠[]∧zep (wAt ws 1)≠0∧(zss (wAt ws 2)).2=true
  ·rw[if_pos c] at hd;cases hd;exact zbvu h c.2.1 _ _
  ·rw[if_neg c] at hd;cases hd
 | user =>
  simp only[z3d,zvw] at hd
  by_cases c:ws.length=3
  ·rw[if_pos c] at hd
   cases hn:zjp (bv (wAt ws 2)) with
   | none=>rw[hn] at hd;cases hd
   | some r =>
    rw[hn] at hd;cases hd
    refine⟨h1.pts,h1.grs,h1.prs,h1.wins,h1.uns,by have:=h.us;simp[addS];omega,h1.once,h1.inn,fun u hu=>?_⟩
    simp only[addS] at hu
    rcases List.mem_append.1 hu with q | q
    ·exact h1.rol u q
    ·simp at q;subst q;simp
  ·rw[if_neg c] at hd;cases hd
 | role =>
  simp only[z3d,zod] at hd
  by_cases c:ws.length=3∧st.us≠[]∧zgx (wAt ws 2)≠0∧(zss (wAt ws 1)).2=true
  ·rw[if_pos c] at hd;cases hd;exact zbvv h c.2.1 _
  ·rw[if_neg c] at hd;cases hd
theorem zbs2 {s:ByteArray} {st':RSt} {n:Nat} (h:Sm st n) (hd:zsf st s = .ok st'):Sm st' (n + 1):=by
 unfold zsf at hd
 by_cases c1:s.size=0∨(bv s).headD 0=35#8
 ·rw[if_pos c1] at hd;cases hd;exact h.mono (Nat.le_succ n)
 rw[if_neg c1] at hd
 simp only at hd
 cases hk:kwOf (wAt (zbv 32 s) 0) with
 | none=>rw[hk] at hd;cases hd
 | some k =>
  rw[hk] at hd
  simp only at hd
  by_cases c2:zvv (zbv 32 s) zh4=true
  ·rw[if_pos c2] at hd;cases hd
  rw[if_neg c2] at hd
  cases hm:z3d st (zbv 32 s) k with
  | none=>rw[hm] at hd;cases hd
  | some st2 =>
   rw[hm] at hd
   simp only at hd
   by_cases c3:zvv st.once (wAt (zbv 32 s) 0)=true
   ·rw[if_pos c3] at hd;cases hd
   rw[if_neg c3] at hd;cases hd
   exact zbvw h hm
theorem sm0:Sm zra 0:=⟨by simp[zra],by simp[zra],by simp[zra],by simp[zra],by simp[zra],by simp[zra],by simp[zra],by simp[zra],by simp[zra]⟩
def z9:List V:=[.slice none 0 0,.slice none 0 0,.slice none 0 0,i64 0,.slice none 0 0,.slice none 0 0,i64 0,.slice none 0 0,i64 0]
def rv0:RV:=⟨.slice none 0 0,.slice none 0 0,.slice none 0 0,.slice none 0 0,.slice none 0 0,.slice none 0 0,.slice none 0 0,[],[]⟩
theorem zbin (h:Hp H0 H L):ReadAt H0 (H.push (some (.cells true [.slice none 0 0,.slice none 0 0,.slice none 0 0,i64 0,.slice none 0 0,.slice none 0 0,i64 0,.slice none 0 0,i64 0,.slice none 0 0]))) H.next rv0 zra L:=by
 refine⟨?_,rfl,rfl⟩
 have s:=h.newc [.slice none 0 0,.slice none 0 0,.slice none 0 0,i64 0,.slice none 0 0,.slice none 0 0,i64 0,.slice none 0 0,i64 0,.slice none 0 0]
 have s1:=Hp.nilAt (α:=ByteArray) (A:=[cel H.next [.slice none 0 0,.slice none 0 0,.slice none 0 0,i64 0,.slice none 0 0,.slice none 0 0,i64 0,.slice none 0 0,i64 0,.slice none 0 0]]) (B:=L) s
 have s2:=Hp.nilAt (α:=Us) (A:=[cel H.next [.slice none 0 0,.slice none 0 0,.slice none 0 0,i64 0,.slice none 0 0,.slice none 0 0,i64 0,.slice none 0 0,i64 0,.slice none 0 0]]) s1
 have s3:=Hp.nilAt (α:=Un) (A:=[cel H.next [.slice none 0 0,.slice none 0 0,.slice none 0 0,i64 0,.slice none 0 0,.slice none 0 0,i64 0,.slice none 0 0,i64 0,.slice none 0 0]]) s2
 have s4:=Hp.nilAt (α:=Win) (A:=[cel H.next [.slice none 0 0,.slice none 0 0,.slice none 0 0,i64 0,.slice none 0 0,.slice none 0 0,i64 0,.slice none 0 0,i64 0,.slice none 0 0]]) s3
 have s5:=Hp.nilAt (α:=Port) (A:=[cel H.next [.slice none 0 0,.slice none 0 0,.slice none 0 0,i64 0,.slice none 0 0,.slice none 0 0,i64 0,.slice none 0 0,i64 0,.slice none 0 0]]) s4
 have s6:=Hp.nilAt (α:=Gr) (A:=[cel H.next [.slice none 0 0,.slice none 0 0,.slice none 0 0,i64 0,.slice none 0 0,.slice none 0 0,i64 0,.slice none 0 0,i64 0,.slice none 0 0]]) s5
 have s7:=Hp.nilAt (α:=Pt) (A:=[cel H.next [.slice none 0 0,.slice none 0 0,.slice none 0 0,i64 0,.slice none 0 0,.slice none 0 0,i64 0,.slice none 0 0,i64 0,.slice none 0 0]]) s6
 exact s7
theorem zbvx {G:List V→M V} {lv:V} {ls:List ByteArray} (hT:Tabs H) (hl:Sl H lv ls) (hn:ls.length≤100000) (hz:∀ s∈ls,s.size≤100000) (Q:V→Heap→Prop)
  (hok:∀ st,zon zra 0 ls = .ok st→∀ v R H' L,ReadAt H H' R v st L→Sm st ls.length→Q (.tuple #[.agg ((v.cells st).take 9).toArray,i64 0,i64 0]) H')
  (hbad:∀ n e,zon zra 0 ls = .error (n,e)→e≠0→∀ H',Keeps [] H H'→Q (.tuple #[.agg z9.toArray,i64 n,i64 e]) H'):wp (zwo G zcn zsu zkk [lv]) Q H:=by
 show wp (z2e G zcn zsu zkk lv) Q H
 have hlen:=hl.len
 have s1:Hp H (H.push (some (.cells true z9))) [cel H.next z9]:=(Hp.start H).newc _
 have eb:build [(Value.slice none 0 0:V),Value.slice none 0 0,Value.slice none 0 0,Value.int .i64 0,Value.slice none 0 0,Value.slice none 0 0,Value.int .i64 0,Value.slice none 0 0,Value.int .i64 0,Value.slice none 0 0] []=some (.agg [.slice none 0 0,.slice none 0 0,.slice none 0 0,i64 0,.slice none 0 0,.slice none 0 0,i64 0,.slice none 0 0,i64 0,.slice none 0 0].toArray):=rfl
 have ez:build [(Value.slice none 0 0:V),Value.slice none 0 0,Value.slice none 0 0,Value.int .i64 0,Value.slice none 0 0,Value.slice none 0 0,Value.int .i64 0,Value.slice none 0 0,Value.int .i64 0] []=some (.agg z9.toArray):=rfl
 unfold z2e
 rw[z6,z6]
 refine (z3x (by decide)).mpr ?_
 change wp _ _ (H.push (some (.cells true z9)))
 generalize hP:H.next=P at *
 generalize H.push (some (.cells true z9))=H1 at *
 rw[z6,eb,zzi,zum,z6]
 refine (zcg rfl).mpr ?_
 have r1:=zbin s1
 generalize hR:H1.next=R at *
 generalize H1.push (some (.cells true [.slice none 0 0,.slice none 0 0,.slice none 0 0,i64 0,.slice none 0 0,.slice none 0 0,i64 0,.slice none 0 0,i64 0,(.slice none 0 0:V)]))=H2 at *
 rw[z6]
 refine zbnc r1.hp _ fun H3 s3=>?_
 generalize H2.next=M at *
 have r3:ReadAt H H3 R rv0 zra (z65 M :: [cel P z9]):=by
  refine⟨?_,rfl,rfl⟩
  rw[zbae] at s3 ⊢
  exact s3.perm List.perm_middle.symm
 (try simp(maxSteps:=1000000)(disch:=first|omega|(simp only[Z3];omega)|(simp;done)|assumption|decide|(apply not_not_intro;assumption))only[ZB,hlen])
 refine zb2 ls.length (by omega) (fun j vs H'=>∃ v st,vs=[ptr P 0,ptr R 0,.map (some M),lv,i64 ls.length,i64 j]∧ReadAt H H' R v st (z65 M :: [cel P z9])∧Sm st j∧zon st j (ls.drop j)=zon zra 0 ls) ⟨rv0,zra,rfl,r3,sm0,rfl⟩ ?_
 rintro j vs H4 hj ⟨v,st,rfl,r4,sm4,hrd⟩
 have gP:=r4.rest.get (i:=1) rfl
 have nP:=Heap.get_lt gP
 by_cases hlt:j < ls.length
 ·rw[zbds ls j zh4 hlt,zon] at hrd
  have hsl:=hl.keep0 r4.hp.keeps
  obtain⟨a1,c1⟩:=z36 hsl hlt
  (try simp(maxSteps:=1000000)(disch:=first|omega|(simp only[Z3];omega)|(simp;done)|assumption|decide|(apply not_not_intro;assumption))only[ZA,zo,zk,zj,zi,zh,ze,zzu,z78,a1,c1])
  refine zbvt hT r4 (sm4.mono (by omega)) (wAt ls j) (hz _ (z87 hlt)) _ (fun st' hst v' H5 r5=>?_) fun e he hne H5 s5=>?_
  ·rw[hst] at hrd
   (try simp(maxSteps:=1000000)(disch:=first|omega|(simp only[Z3];omega)|(simp;done)|assumption|decide|(apply not_not_intro;assumption))only[ZB,z77])
   exact⟨hlt,v',st',rfl,r5,zbs2 sm4 hst,hrd⟩
  ·rw[he] at hrd
   simp only at hrd
   have e1:decide (e≠0)=true:=decide_eq_true hne
   have g5:=s5.get (i:=1) rfl
   have n5:=Heap.get_lt g5
   have h9:z9.length=9:=rfl
   have w9:=fun Q=>zc4 (n:=9) (Q:=Q) g5 h9 h9 (by decide:z9.all Value.isOne=true)
   (try simp(maxSteps:=1000000)(disch:=first|omega|(simp only[Z3];omega)|(simp;done)|assumption|decide|(apply not_not_intro;assumption))only[ZA,zo,zk,zj,zi,zh,ze,e1,ez,w9])
   have gz:=Heap.get_set_eq (x:=some (.cells true z9)) n5
   have d9:=fun Q=>zbc (n:=9) (Q:=Q) gz h9
   have q:=hbad (j + 1) e hrd.symm hne (H5.set P (some (.cells true z9))) (s5.keeps.trans (Keeps.set (S:=[P]) (by simp)) (fun b hb hm=>by simp at hm;omega))
   push_cast at q
   (try simp(maxSteps:=1000000)(disch:=first|omega|(simp only[Z3];omega)|(simp;done)|assumption|decide|(apply not_not_intro;assumption))only[ZA,zp,zo,zm,zk,zj,zi,zh,ze,d9])
   exact q
 ·have:j=ls.length:=by omega
  subst this
  rw[List.drop_length,zon] at hrd
  have g4:=r4.get
  have h9:((v.cells st).take 9).length=9:=rfl
  have hone:((v.cells st).take 9).all Value.isOne=true:=by
   have o1:=(r4.hp.own (i:=1) rfl).isOne
   have o2:=(r4.hp.own (i:=2) rfl).isOne
   have o3:=(r4.hp.own (i:=3) rfl).isOne
   have o4:=(r4.hp.own (i:=4) rfl).isOne
   have o5:=(r4.hp.own (i:=5) rfl).isOne
   have o6:=(r4.hp.own (i:=6) rfl).isOne
   simp[RV.cells,o1,o2,o3,o4,o5,o6]
  have d4:∀ Q,wp (ldn 9 (ptr R 0)) Q H4↔Q (.agg ((v.cells st).take 9).toArray) H4:=fun Q=>by
   rw[zca,g4,zsi (by show 0 + 9≤10;omega)]
   rfl
  have w9:=fun Q=>zc4 (n:=9) (Q:=Q) gP (rfl:z9.length=9) h9 hone
  (try simp(maxSteps:=1000000)(disch:=first|omega|(simp only[Z3];omega)|(simp;done)|assumption|decide|(apply not_not_intro;assumption))only[ZA,zo,zm,zk,zj,zi,zh,ze,zzu,z79,d4,w9])
  have gz:=Heap.get_set_eq (x:=some (.cells true ((v.cells st).take 9))) nP
  have d9:=fun Q=>zbc (n:=9) (Q:=Q) gz h9
  have s5:Hp H _ _:=r4.hp.set (i:=((unT v.uns).length + ((usT v.uz).length + 1)) + 8) (d:=P) (cs:=z9) (by
   show (unT v.uns ++ (usT v.uz ++ (z65 M :: [cel P z9])))[(unT v.uns).length + ((usT v.uz).length + 1)]? = _
   rw[z88,z88];rfl) ((v.cells st).take 9)
  have q:=hok st hrd.symm v R (H4.set P (some (.cells true ((v.cells st).take 9)))) (z65 M :: [cel P ((v.cells st).take 9)]) ⟨by
   have e:(RV.things R v st (z65 M :: [cel P z9])).set (((unT v.uns).length + ((usT v.uz).length + 1)) + 8) (cel P ((v.cells st).take 9))=RV.things R v st (z65 M :: [cel P ((v.cells st).take 9)]):=by
    have:∀ k:Nat,(RV.things R v st (z65 M :: [cel P z9])).set (k + 8) (cel P ((v.cells st).take 9))=cel R (v.cells st) :: own v.pv st.sy.pts :: own v.gv st.sy.grs :: own v.qv st.sy.prs :: own v.wv st.sy.wins :: own v.uv v.uns :: own v.sv v.uz :: own v.ov st.once :: ((unT v.uns ++ (usT v.uz ++ (z65 M :: [cel P z9]))).set k (cel P ((v.cells st).take 9))):=fun k=>rfl
    rw[this,zbec,zbec]
    rfl
   rw[e] at s5
   exact s5,r4.uns,r4.us⟩ sm4
  (try simp(maxSteps:=1000000)(disch:=first|omega|(simp only[Z3];omega)|(simp;done)|assumption|decide|(apply not_not_intro;assumption))only[ZA,zp,zo,zm,zk,zj,zi,zh,ze,d9])
  exact q
end Go.AM.Cap
