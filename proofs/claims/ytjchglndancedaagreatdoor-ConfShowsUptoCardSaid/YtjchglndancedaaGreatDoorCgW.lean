import Derived.Test.YtjchglndancedaaGreatDoorPoC
import Derived.Test.YtjchglndancedaaGreatDoorAmIn
import Derived.Test.YtjchglndancedaaGreatDoorCgV
set_option linter.all false
/- ports: the program's calls of a box -/
set_option maxHeartbeats 8000000
namespace Go.AM.Cap
open Go.AM Go.Proofs
end Go.AM.Cap

/- ports: Recv, Frame, Undo, Waits -/
set_option maxHeartbeats 8000000
namespace Go.AM.Cap
open Go.AM Go.Proofs
end Go.AM.Cap

/- ports: Frame, Undo, Waits, New of the program -/
set_option maxHeartbeats 8000000
namespace Go.AM.Cap
open Go.AM Go.Proofs
end Go.AM.Cap

/- ports: New, of the program and of the reference -/
set_option maxHeartbeats 8000000
namespace Go.AM.Cap
open Go.AM Go.Proofs
theorem zbm7:∀ (i:Nat) (ls:List Port),(z8n i ls).2=0→∀ q∈ls,zlf q=0
 | _,[],_=>fun q hq=>(List.not_mem_nil hq).elim
 | i,p :: ps,h=>by
  simp only[z8n] at h
  by_cases hw:zlf p≠0
  ·rw[if_pos hw] at h;exact absurd h hw
  ·rw[if_neg hw] at h
   intro q hq
   rcases List.mem_cons.1 hq with rfl | hq
   ·exact Decidable.not_not.mp hw
   ·exact zbm7 (i + 1) ps h q hq
theorem zbsw {ls:List Port} (h:(chkP ls).2=0):ls.length≤16∧∀ q∈ls,zlf q=0:=by
 unfold chkP at h
 split at h
 ·simp at h
 ·exact⟨by omega,zbm7 0 ls h⟩
theorem zbuy {α:Type} [Flat α] {H:Heap} {b n bytes:Nat} {xv:V} {xs:List α} {Q:V→Heap→Prop} (hs:Flat.size α=n) (hb:H.get b=some (.cells true [])) (hx:Sl H xv xs) (hn:xs.length * n≤1000000) (hl:xs.length≤1000000) (hby:bytes≤1000) (hQ:∀ w H',(w=slc b 0 n 0 0∧xs=[]∧H'=H∨w=slc H.next 0 n xs.length xs.length∧H'.get H.next=some (.cells true (zbj xs))∧Keeps [b] H H'∧xs≠[]∧H'.next=H.next + 1)→Q w H'):wp (zd0 n bytes (slc b 0 n 0 0) xv) Q H:=by
 subst hs
 by_cases h0:xs=[]
 ·subst h0
  refine⟨slc b 0 (Flat.size α) 0 0,H,?_,hQ _ _ (.inl ⟨rfl,rfl,rfl⟩)⟩
  rcases hx with⟨rfl,_⟩ | ⟨bb,o,u,c,rfl,_⟩ <;> rfl
 ·have hne:xs.length≠0:=fun h=>h0 (List.eq_nil_of_length_eq_zero h)
  have hc:zbf H (Flat.size α) xv=some (zbj xs):=by
   rcases hx with⟨rfl,e⟩ | ⟨bb,o,u,c,rfl,hc,_,hl2,_⟩
   ·exact absurd e h0
   ·rcases hl2 with e | ⟨rw,cs,hg,q1,q2⟩
    ·exact absurd e h0
    ·simp only[zbf,hne,if_false,cellsAt,hg]
     rw[if_pos q1,q2]
  have hf:∃ a c,xv = .slice a xs.length c:=by
   rcases hx with⟨rfl,e⟩ | ⟨bb,o,u,c,rfl,_⟩
   ·exact absurd e h0
   ·exact⟨_,_,rfl⟩
  obtain⟨a,c,rfl⟩:=hf
  have hlt:=Heap.get_lt hb
  have hone:=zbcm xs
  have hel:=zb6 xs
  have hcs0:zbf H (Flat.size α) (slc b 0 (Flat.size α) 0 0)=some []:=rfl
  have hm:xs.length * bytes≤1000000 * 1000:=Nat.mul_le_mul hl hby
  refine⟨slc H.next 0 (Flat.size α) xs.length xs.length,(H.set b none).push (some (.cells true (zbj xs))),?_,hQ _ _ (.inr ⟨rfl,?_,?_,h0,by simp⟩)⟩
  ·simp only[zd0,hc,zvu,hne,if_false,hcs0,zsp,hb,if_true]
   rw[if_pos ⟨by rw[Nat.zero_add];omega,by omega,hone,hel⟩]
   simp
  ·have:=Heap.get_push_self (H.set b none) (some (.cells true (zbj xs)))
   simpa using this
  ·exact⟨by simp,fun c hc hn=>by rw[Heap.get_push_lt (by simpa using hc),Heap.get_set_ne _ _ _ (by simpa using hn)]⟩
def gs0:GS:=⟨⟨none,0,0⟩,⟨none,0,0⟩,[],[],0,0⟩
def st0:PSt:=⟨[],[],0,0⟩
theorem zbuz:gs0.fp=[]:=rfl
theorem BoxV.new {H:Heap} {p sb:Nat} {w:V} {ls:List Port} (hp:H.get p=some (.cells true [w,slc sb 0 4 ls.length ls.length])) (hw:Sl H w ls) (hsb:H.get sb=some (.cells true (zbj (List.replicate ls.length gs0)))) (h1:p≠sb) (h2:p ∉ vb w) (h3:sb ∉ vb w) (hgood:(chkP ls).2=0) :
  BoxV H p w sb ls (List.replicate ls.length gs0)∧(List.replicate ls.length gs0).map GS.st=List.replicate ls.length st0∧∀ b∈foot p sb w (List.replicate ls.length gs0),b=p∨b=sb∨b∈vb w:=by
 have hg:=zbsw hgood
 have hmem:∀ (i:Nat) (g:GS),(List.replicate ls.length gs0)[i]? = some g→g=gs0:=fun i g h=>by
  have:=List.mem_of_getElem? h
  exact (List.mem_replicate.1 this).2
 refine⟨⟨by rw[List.length_replicate];exact hp,hw,by simp,hsb,fun i g h=>?_,fun i g h=>?_,fun i g h=>?_,fun i j g g' h h' _=>?_,fun i g h=>?_,h1,h2,h3,fun i g h=>?_,hg.1,hg.2⟩,by simp[gs0,GS.st,st0],fun b hb=>?_⟩
 ·obtain rfl:=hmem i g h;exact Seg.nil _
 ·obtain rfl:=hmem i g h;exact Seg.nil _
 ·obtain rfl:=hmem i g h;intro b hb;simp[gs0,SV.v] at hb
 ·obtain rfl:=hmem i g h;intro b hb;simp[zbuz] at hb
 ·obtain rfl:=hmem i g h;intro b hb;simp[zbuz] at hb
 ·obtain rfl:=hmem i g h;exact⟨by simp[gs0],by simp[gs0]⟩
 ·simp only[foot,List.mem_cons,List.mem_append,List.mem_flatMap] at hb
  rcases hb with hb | hb | hb | ⟨g,hg,hb⟩
  ·exact .inl hb
  ·exact .inr (.inl hb)
  ·exact .inr (.inr hb)
  ·obtain rfl:=(List.mem_replicate.1 hg).2
   simp[zbuz] at hb
theorem zbpe {H:Heap} {lv:V} {ls:List Port} (hl:Sl H lv ls) (Q:V→Heap→Prop)
  (hbad:(chkP ls).2≠0→∀ H',Keeps [] H H'→Q (.tuple #[.pointer none,i64 (chkP ls).2]) H')
  (hQ:(chkP ls).2=0→∀ p w sb gs H',BoxV H' p w sb ls gs→gs.map GS.st=List.replicate ls.length st0→Keeps [] H H'→(∀ b∈foot p sb w gs,H.next≤b)→Q (.tuple #[ptr p 0,i64 0]) H'):wp (zym [lv]) Q H:=by
 show wp (z6t lv) Q H
 simp only[z6t,z7]
 refine z7c H lv ls hl _ fun H1 k1=>?_
 by_cases he:(chkP ls).2≠0
 ·(try simp (maxSteps:=999999) (disch:=try exact ZD) only[ZB])
  exact hbad he H1 k1
 have he0:(chkP ls).2=0:=Decidable.not_not.mp he
 have hsm:=(zbsw he0).1
 have hl1:=hl.keep0 k1
 have hne:=k1.next
 (try simp (maxSteps:=999999) (disch:=try exact ZD) only[ZB,zbdi,hl1.len,zpw])
 have kp:Keeps [] H1 ((H1.push none).push none):=zbq (Keeps.push _ _ _)
 have g0:((H1.push none).push none).get H1.next=none:=by rw[Heap.get_push_lt (by simp)];exact Heap.get_push_self _ _
 have g1:((H1.push none).push none).get (H1.next + 1)=none:=by rw[Heap.get_push_eq (by simp)]
 have gn:((H1.push none).push none).next=H1.next + 2:=by simp
 generalize hH2:(H1.push none).push none=H2 at *
 refine ztv (cs:=[]) g0 (by omega) (by decide) (by rfl) ?_
 have kf:Keeps [H1.next] H2 (H2.set H1.next (some (.cells true []))):=Keeps.set (by simp)
 have kf0:Keeps [] H1 (H2.set H1.next (some (.cells true []))):=kp.trans kf (fun b hb hm=>by simp at hm;omega)
 refine zbuy (α:=Port) rfl (Heap.get_set_self (by omega)) (hl1.keep0 kf0) (by omega) (by omega) (by omega) fun w H3 hw=>?_
 have hw3:Sl H3 w ls∧Keeps [] H1 H3∧(∀ b∈vb w,b=H1.next∨H1.next + 2≤b)∧H3.get (H1.next + 1)=none∧H1.next + 2≤H3.next:=by
  rcases hw with⟨rfl,rfl,rfl⟩ | ⟨rfl,hg,hk,_,hn⟩
  ·exact⟨.inr ⟨_,_,_,_,rfl,Nat.le_refl _,Heap.get_lt (Heap.get_set_self (by omega)),.inl rfl,.inr rfl⟩,kf0,by simp,by rw[Heap.get_set_ne _ _ _ (by omega)];exact g1,by simp;omega⟩
  ·refine⟨.inr ⟨_,_,_,_,rfl,Nat.le_refl _,Heap.get_lt (hg),.inr ⟨_,_,hg,by rw[zb6];omega,by rw[List.drop_zero,List.take_of_length_le (by rw[zb6];exact Nat.le_refl _)]⟩,.inr rfl⟩,kf0.trans hk (fun b hb hm=>by simp at hm;omega),by simp;omega,?_,by rw[hn];simp;omega⟩
   rw[hk.same _ (by simp;omega) (by simp),Heap.get_set_ne _ _ _ (by omega)];exact g1
 obtain⟨w1,w2,w3,w4,w5⟩:=hw3
 have g1s:(H2.set H1.next (some (.cells true []))).get (H1.next + 1)=none:=by rw[Heap.get_set_ne _ _ _ (by omega)];exact g1
 (try simp (maxSteps:=999999) (disch:=try exact ZD) only[ZB,zlt (bs:=[]) g1s (by simp;omega),zlt (bs:=[]) w4 (by omega),Bool.and_true])
 refine zm9 (n:=ls.length) (c:=ls.length) w4 (by omega) (by decide) (Nat.le_refl _) (by omega) (by omega) ?_
 rw[z0e gs0 _ (by rfl)]
 have hwo:=w1.isOne
 (try simp (maxSteps:=999999) (disch:=try exact ZD) only[ZB,hwo])
 refine (zb0 (by simp[hwo])).mpr ?_
 (try simp (maxSteps:=999999) (disch:=try exact ZD) only[ZB])
 have hg1:((H3.set (H1.next + 1) (some (.cells true (zbj (List.replicate ls.length gs0))))).push (some (.cells true [w,slc (H1.next + 1) 0 4 ls.length ls.length]))).get H3.next=some (.cells true [w,slc (H1.next + 1) 0 4 ls.length ls.length]):=Heap.get_push_eq (by simp)
 have hg2:((H3.set (H1.next + 1) (some (.cells true (zbj (List.replicate ls.length gs0))))).push (some (.cells true [w,slc (H1.next + 1) 0 4 ls.length ls.length]))).get (H1.next + 1)=some (.cells true (zbj (List.replicate ls.length gs0))):=by
  rw[Heap.get_push_lt (by simp;omega),Heap.get_set_self (by omega)]
 have hk3:Keeps [H1.next + 1] H3 ((H3.set (H1.next + 1) (some (.cells true (zbj (List.replicate ls.length gs0))))).push (some (.cells true [w,slc (H1.next + 1) 0 4 ls.length ls.length]))):=zbq (Keeps.set (by simp))
 obtain⟨q1,q2,q3⟩:=BoxV.new hg1 (w1.keep hk3 (fun b hb hm=>by have:=w3 b hb;simp at hm;omega)) hg2 (by omega) (fun hm=>by have:=w1.lt _ hm;omega) (fun hm=>by have:=w3 _ hm;omega) he0
 refine hQ he0 _ _ _ _ _ q1 q2 ((k1.trans w2 (fun _ _ h=>h)).trans hk3 (fun b hb hm=>by simp at hm;omega)) fun b hb=>?_
 rcases q3 b hb with rfl | rfl | hb
 ·omega
 ·omega
 ·have:=w3 b hb;omega
end Go.AM.Cap

/- conf, the document: types of binds, a partition's New -/
set_option maxHeartbeats 16000000
namespace Go.AM.Cap
open Go.AM Go.Proofs
theorem zbm8 {H:Heap} {x:SyV} {s:Sy} {lv:V} {l:List Bd} (h:SysAt H x s) (hl:Sl H lv l) (hn:l.length≤32) (hb:∀ b∈l,inB s b) (Q:V→Heap→Prop)
  (hQ:∀ w H',Hp H H' [own w (l.map (zqd s))]→Q w H'):wp (zo0 [.agg (x.cs s).toArray,lv]) Q H:=by
 show wp (zzy (.agg (x.cs s).toArray) lv) Q H
 have ho:=h.one
 have hlen:=hl.len
 have st:Hp H (H.push (some (.cells true (x.cs s)))) [cel H.next (x.cs s)]:=(Hp.start H).newc _
 unfold zzy
 rw[z7,z7]
 refine (zb0 ho).mpr ?_
 generalize H.push (some (.cells true (x.cs s)))=H1 at *
 have c0:(x.cs s)[0]? = some x.pv:=rfl
 have c2:(x.cs s)[2]? = some x.qv:=rfl
 (try simp (maxSteps:=999999) (disch:=try exact ZD) only[ZB])
 refine zbo l.length (by omega) (fun j vs H'=>∃ w,vs=[lv,ptr H.next 0,w,i64 j]∧Hp H H' [own w ((l.take j).map (zqd s)),cel H.next (x.cs s)]) ⟨.slice none 0 0,rfl,st.nilo (α:=Int)⟩ ?_
 rintro j vs H2 hj ⟨w,rfl,s2⟩
 by_cases hlt:j < l.length
 case neg =>
  have:j=l.length:=by omega
  subst this
  rw[List.take_length] at s2
  (try simp (maxSteps:=999999) (disch:=try exact ZD) only[ZB,zrz,z6u,hlen])
  exact hQ w H2 (s2.sub (by simp))
 have hts:l.take (j + 1)=l.take j ++ [l.getD j default]:=by
  rw[List.getD_eq_getElem?_getD,List.getElem?_eq_getElem hlt];exact List.take_succ_eq_append_getElem hlt
 have hbj:=hb _ (zbh (d:=default) hlt)
 have hl2:=s2.ro hl
 have a1:=hl2.addr' (n:=2) rfl (k := .i64) (i:=j) (by omega) (by omega)
 rw[Int.toNat_natCast] at a1
 have e0:=hl2.cell' (n:=2) rfl (off:=0) hlt (by omega) default
 have e1:=hl2.cell' (n:=2) rfl (off:=1) hlt (by omega) default
 rw[zbd] at e0 e1
 have f0:(Flat.enc (l.getD j default))[0]? = some (i64 (l.getD j default).kind):=rfl
 have f1:(Flat.enc (l.getD j default))[1]? = some (i64 (l.getD j default).n):=rfl
 rw[f0,Nat.add_zero] at e0
 rw[f1] at e1
 have htl:(l.take j).length=j:=by rw[List.length_take];omega
 rw[hts,List.map_append]
 simp only[List.map_cons,List.map_nil]
 generalize l.getD j default=b at *
 have g2:=s2.get (i:=1) rfl
 have hk:zqd s b=zqd s b:=rfl
 unfold zqd at hk
 rcases hbj with⟨h1,h2,h3⟩ | ⟨h1,h2,h3⟩
 ·have hp:=s2.ro h.pts
  have a2:=hp.addr' (n:=2) rfl (k := .i64) (i:=b.n) h2 h3
  have d1:=hp.cell' (n:=2) rfl (off:=0) (i:=b.n.toNat) (by omega) (by omega) default
  rw[zbd] at d1
  have e2:(Flat.enc (s.pts.getD b.n.toNat default))[0]? = some (i64 (s.pts.getD b.n.toNat default).typ):=rfl
  rw[e2,Nat.add_zero] at d1
  have hkb:zqd s b=(s.pts.getD b.n.toNat default).typ:=by rw[zqd,if_pos h1]
  rw[← hkb] at d1
  have hx:decide (b.kind=2)=false:=decide_eq_false (by omega)
  (try simp (maxSteps:=999999) (disch:=try exact ZD) only[ZA,zbz,zo,zn,zm,zk,zi,zg,ze,zrz,zxb,hlen,a1,e0,e1,hx,g2,c0,a2,d1])
  refine zna (α:=Int) (n:=1) (ys:=[zqd s b]) s2 (i:=0) rfl rfl (by decide) (by rw[ze rfl (by decide),zb1];rfl) rfl (by simp[htl];omega) (by simp[htl];omega) fun w' H3 s3=>?_
  simp only[List.set_cons_zero] at s3
  (try simp (maxSteps:=999999) (disch:=try exact ZD) only[ZB,zxa])
  exact⟨hlt,w',rfl,s3⟩
 ·have hp:=s2.ro h.prs
  have a2:=hp.addr' (n:=5) rfl (k := .i64) (i:=b.n) h2 h3
  have d1:=hp.cell' (n:=5) rfl (off:=3) (i:=b.n.toNat) (by omega) (by omega) default
  rw[zbd] at d1
  have e2:(Flat.enc (s.prs.getD b.n.toNat default))[3]? = some (i64 (s.prs.getD b.n.toNat default).typ):=rfl
  rw[e2] at d1
  have hkb:zqd s b=(s.prs.getD b.n.toNat default).typ:=by rw[zqd,if_neg (by omega),if_pos h1]
  rw[← hkb] at d1
  have hx:decide (b.kind=2)=true:=decide_eq_true h1
  (try simp (maxSteps:=999999) (disch:=try exact ZD) only[ZA,zbz,zo,zn,zm,zk,zi,zg,ze,zrz,zxb,hlen,a1,e0,e1,hx,g2,c2,a2,d1])
  refine zna (α:=Int) (n:=1) (ys:=[zqd s b]) s2 (i:=0) rfl rfl (by decide) (by rw[ze rfl (by decide),zb1];rfl) rfl (by simp[htl];omega) (by simp[htl];omega) fun w' H3 s3=>?_
  simp only[List.set_cons_zero] at s3
  (try simp (maxSteps:=999999) (disch:=try exact ZD) only[ZB,zxa])
  exact⟨hlt,w',rfl,s3⟩
theorem zbpf {H:Heap} {v w:V} {xs ys:List Int} (hv:Sl H v xs) (hw:Sl H w ys) (h1:xs.length≤32) (h2:ys.length≤32) (g1:∀ t∈xs,1≤t∧t≤3) (g2:∀ t∈ys,1≤t∧t≤3) (Q:V→Heap→Prop)
  (hQ:∀ p H',Keeps [] H H'→Q (.tuple #[ptr p 0,i64 0]) H'):wp (zyn [v,w]) Q H:=by
 show wp (z6v v w) Q H
 have l1:=hv.len
 have l2:=hw.len
 (try simp (maxSteps:=999999) (disch:=try exact ZD) only[ZB,z6v,l1,l2,zbdm])
 refine (zdf (by decide) (by rfl:zbu (rep 0 [Value.int .i64 0]) []=some (zbj ([]:List Int)))).mpr ?_
 have s1:Hp H (H.push (some (.cells true (zbj ([]:List Int))))) [own (slc H.next 0 1 0 0) ([]:List Int)]:=(Hp.start H).newo (α:=Int) (n:=1) (m:=0) [] rfl rfl
 generalize H.push (some (.cells true (zbj ([]:List Int))))=H1 at *
 (try simp (maxSteps:=999999) (disch:=try exact ZD) only[ZB])
 refine z1l (α:=Int) (n:=1) s1 (i:=0) rfl rfl (s1.ro hv) (by simp;omega) (by simp;omega) fun a H2 s2=>?_
 simp only[List.set_cons_zero,List.nil_append] at s2
 (try simp (maxSteps:=999999) (disch:=try exact ZD) only[ZB])
 refine z1l (α:=Int) (n:=1) s2 (i:=0) rfl rfl (s2.ro hw) (by omega) (by omega) fun c H3 s3=>?_
 simp only[List.set_cons_zero] at s3
 have oc:=(s3.own (i:=0) rfl).sl
 have lc:=oc.len
 have hlc:(xs ++ ys).length≤64:=by rw[List.length_append];omega
 have gc:∀ t∈xs ++ ys,1≤t∧t≤3:=fun t ht=>by
  rcases List.mem_append.1 ht with ht | ht
  ·exact g1 t ht
  ·exact g2 t ht
 generalize xs ++ ys=zs at *
 (try simp (maxSteps:=999999) (disch:=try exact ZD) only[ZB])
 refine zbo zs.length (by omega) (fun j vs H'=>vs=[v,w,c,i64 j]∧Keeps [] H3 H') ⟨rfl,Keeps.refl _ _⟩ ?_
 rintro j vs H4 hj ⟨rfl,k4⟩
 by_cases hlt:j < zs.length
 ·have oc4:=oc.keep0 k4
  have a1:=oc4.addr1 rfl (k := .i64) (i:=j) (by omega) (by omega)
  rw[Int.toNat_natCast] at a1
  have c1:=oc4.cell1 rfl hlt 0
  rw[zbd] at c1
  have e1:(Flat.enc (zs.getD j 0))[0]? = some (i64 (zs.getD j 0)):=rfl
  rw[e1] at c1
  have hm:=gc _ (zbh (d:=0) hlt)
  generalize zs.getD j 0=t at *
  have q1:decide (t < 1)=false:=decide_eq_false (by omega)
  have q2:decide (t > 3)=false:=decide_eq_false (by omega)
  (try simp (maxSteps:=999999) (disch:=try exact ZD) only[ZB,z19,zbdk,lc,a1,c1,q1,q2,zbdj])
  exact⟨hlt,rfl,k4⟩
 have k34:=s3.keeps.trans k4 (fun _ _ h=>h)
 (try simp (maxSteps:=999999) (disch:=try exact ZD) only[ZB,z19,lc,zbdl])
 refine (zdf (by decide) (by rfl:zbu (rep 0 [Value.int .i64 0]) []=some (zbj ([]:List Int)))).mpr ?_
 have s5:Hp H (H4.push (some (.cells true (zbj ([]:List Int))))) [own (slc H4.next 0 1 0 0) ([]:List Int)]:=((Hp.start H).keep0 k34).newo (α:=Int) (n:=1) (m:=0) [] rfl rfl
 generalize H4.push (some (.cells true (zbj ([]:List Int))))=H5 at *
 (try simp (maxSteps:=999999) (disch:=try exact ZD) only[ZB])
 refine z1l (α:=Int) (n:=1) s5 (i:=0) rfl rfl (s5.ro hv) (by simp;omega) (by simp;omega) fun a2 H6 s6=>?_
 simp only[List.set_cons_zero,List.nil_append] at s6
 (try simp (maxSteps:=999999) (disch:=try exact ZD) only[ZB])
 refine (zdf (by decide) (by rfl:zbu (rep 0 [Value.int .i64 0]) []=some (zbj ([]:List Int)))).mpr ?_
 have s7:=s6.newo (α:=Int) (n:=1) (m:=0) ([]:List Int) rfl rfl
 generalize H6.push (some (.cells true (zbj ([]:List Int))))=H7 at *
 (try simp (maxSteps:=999999) (disch:=try exact ZD) only[ZB])
 refine z1l (α:=Int) (n:=1) s7 (i:=0) rfl rfl (s7.ro hw) (by simp;omega) (by simp;omega) fun b2 H8 s8=>?_
 simp only[List.set_cons_zero,List.nil_append] at s8
 have oa:=(s8.own (i:=1) rfl).isOne
 have ob:=(s8.own (i:=0) rfl).isOne
 have hbd:build [(Value.slice none 0 0:V),Value.slice none 0 0,Value.string ⟨#[]⟩,Value.slice none 0 0,Value.slice none 0 0,Value.slice none 0 0,Value.slice none 0 0,Value.slice none 0 0,Value.slice none 0 0,Value.int .i64 0,Value.int .i64 0,Value.int .i64 0,Value.int .i64 0] [(0,1,a2),(1,1,b2)]=some (.agg [a2,b2,.string ⟨#[]⟩,.slice none 0 0,.slice none 0 0,.slice none 0 0,.slice none 0 0,.slice none 0 0,.slice none 0 0,i64 0,i64 0,i64 0,i64 0].toArray):=by
  rw[zm (by rfl),ze oa (by decide),ze ob (by rw[List.length_set];decide),zb1]
  rfl
 (try simp (maxSteps:=999999) (disch:=try exact ZD) only[ZA,zbz,zo,zn,zk,zi,zj,zg,ze,hbd])
 refine (zb0 (by simp[oa,ob])).mpr ?_
 exact hQ _ _ (zbq s8.keeps)
end Go.AM.Cap
