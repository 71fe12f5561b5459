import Derived.Test.YtjchglndancedaaGreatDoorCfBx
import Derived.Test.YtjchglndancedaaGreatDoorCfBu
import Derived.Test.YtjchglndancedaaGreatDoorAmIn
set_option linter.all false
/- conf: plain: there and back -/
set_option maxHeartbeats 4000000
namespace Go.AM.Cap
open Go.AM Go.Proofs
def zv1 (st:RSt) (us:List PUs):RSt:={ st with us:=us }
theorem zbgw:∀ n:Nat,n < 16→hexd n≠32#8∧hexd n≠10#8:=by decide
theorem zbt4 {k:ByteArray} (h:16≤k.size):zl1 (zy3 k):=by
 unfold zl1 zy3
 rw[zrt]
 refine⟨fun e=>?_,fun b hb=>?_⟩
 ·have:=congrArg List.length e
  rw[z1q,zcy] at this
  simp at this;omega
 ·unfold z7w at hb
  obtain⟨c,_,hb⟩:=List.mem_flatMap.1 hb
  have:=b_lt c
  simp only[List.mem_cons,List.not_mem_nil,or_false] at hb
  rcases hb with rfl | rfl
  ·exact zbgw _ (by omega)
  ·exact zbgw _ (by omega)
theorem zbiv:∀ b:BitVec 8,inS (bv letters) b=true→b≠32#8∧b≠10#8:=by decide +kernel
theorem zbqo {n:ByteArray} (h:zsr n=true):zl1 n:=by
 unfold zsr at h
 simp only[Bool.and_eq_true,decide_eq_true_eq] at h
 refine⟨fun e=>h.1.1 (zbcv (e.trans (show []=bv ⟨#[]⟩ from rfl))),fun b hb=>zbiv b (List.all_eq_true.1 h.2 b hb)⟩
theorem zbws {st:RSt} (ho:st.once=O3) {n k:ByteArray} (hn:zsr n=true) (hk:16≤k.size):Rd st [ln z03 [.s n,.s (zy3 k)]] (zv1 st (st.us ++ [⟨n,k,[]⟩])):=by
 refine zir (kw := .user) (zi4 (by decide)) (fun d hd=>by
  simp only[List.mem_cons,List.not_mem_nil,or_false] at hd
  rcases hd with rfl | rfl
  ·exact zbqo hn
  ·exact zbt4 hk) (by decide) (by decide) ?_ (by rw[ho];decide)
 show zvw st [z03,n,zy3 k]=_
 unfold zvw
 rw[if_pos (show [z03,n,zy3 k].length=3 from rfl),show wAt [z03,n,zy3 k] 2=zy3 k from rfl,show wAt [z03,n,zy3 k] 1=n from rfl]
 have:zjp (bv (zy3 k))=some (bv k):=by
  unfold zy3
  rw[zrt]
  exact zbld _
 rw[this]
 simp only[zbaq]
 rfl
def rlLn (r:Rl):ByteArray:=ln z82 [.n r.part,.s (levW r.level)]
theorem zbwu {st:RSt} (ho:st.once=O3) (us:List PUs) (u:PUs) {r:Rl} (hp:zj5 r.part) (hl:1≤r.level∧r.level≤4):Rd (zv1 st (us ++ [u])) [rlLn r] (zv1 st (us ++ [⟨u.name,u.key,u.rs ++ [r]⟩])):=by
 obtain⟨pa,le⟩:=r
 simp only at hp hl
 have hlb:=zbt0 hl.1 hl.2
 have hnum:=z9c hp
 have hne:us ++ [u]≠[]:=by simp
 have h0:=hl.1
 refine zir (kw := .role) (zi4 (by decide)) (fun d hd=>by
  simp only[List.mem_cons,List.not_mem_nil,or_false] at hd
  rcases hd with rfl | rfl
  ·exact zhi hp.1
  ·exact zbtz hl.1 hl.2) (by decide) (by decide) ?_ (by show zvv st.once z82=false;rw[ho];decide)
 show zod _ [z82,zba (.n pa),levW le]=_
 unfold zod
 rw[show wAt [z82,zba (.n pa),levW le] 2=levW le from rfl,show wAt [z82,zba (.n pa),levW le] 1=zba (.n pa) from rfl,hlb,hnum]
 rw[if_pos ⟨rfl,hne,by omega,rfl⟩]
 congr 1
 unfold addR zv1
 have hg:(us ++ [u]).getD ((us ++ [u]).length - 1) default=u:=by
  rw[List.length_append,List.getD_eq_getElem?_getD];simp
 simp only[hg]
 rw[show (us ++ [u]).length - 1=us.length by simp,List.set_append_right _ _ (Nat.le_refl _)]
 simp
theorem zblh {st:RSt} (ho:st.once=O3) (us:List PUs):∀ (l:List Rl) (u:PUs),(∀ r∈l,zj5 r.part∧1≤r.level∧r.level≤4)→Rd (zv1 st (us ++ [u])) (l.map rlLn) (zv1 st (us ++ [⟨u.name,u.key,u.rs ++ l⟩]))
 | [],u,_=>by rw[List.append_nil];exact Rd.nil _
 | r :: l,u,h=>by
  have h1:=zbwu ho us u (h r (by simp)).1 (h r (by simp)).2
  have h2:=zblh ho us l ⟨u.name,u.key,u.rs ++ [r]⟩ (fun c hc=>h c (by simp[hc]))
  rw[List.append_assoc] at h2
  exact h1.app h2
def usLn (u:PUs):List ByteArray:=[ln z03 [.s u.name,.s (zy3 u.key)]] ++ u.rs.map rlLn
theorem zb0w {st:RSt} (ho:st.once=O3) {u:PUs} (hn:zsr u.name=true) (hk:16≤u.key.size) (hr:∀ r∈u.rs,zj5 r.part∧1≤r.level∧r.level≤4):Rd st (usLn u) (zv1 st (st.us ++ [u])) :=
 (zbws ho hn hk).app (zblh ho st.us u.rs ⟨u.name,u.key,[]⟩ hr)
def st1 (m f i:Int):RSt:=⟨⟨[],[],[],f,[],[],m⟩,[],i,O3⟩
theorem zbwv {m f i:Int} (hm:zj5 m) (hf:zj5 f) (hi:zj5 i):Rd zra ([ln zdv [.n m]] ++ [ln zgd [.n f]] ++ [ln zno [.n i]]) (st1 m f i):=by
 have one:∀ {n:Int},zj5 n→zf9 [zba (.n n)] 1=some [n]:=fun {n} h=>zt9 (is:=[n]) (fun j hj=>by
  simp only[List.mem_cons,List.not_mem_nil,or_false] at hj
  subst hj;exact h)
 have gd:∀ {n:Int},zj5 n→∀ d∈[Wd.n n],zl1 (zba d):=fun {n} h d hd=>by
  simp only[List.mem_cons,List.not_mem_nil,or_false] at hd
  subst hd;exact zhi h.1
 have a:Rd zra [ln zdv [.n m]] ⟨⟨[],[],[],0,[],[],m⟩,[],0,[zdv]⟩:=zir (kw := .single) (zi4 (by decide)) (gd hm) (by decide) (by decide) (by
  show (zf9 [zba (.n m)] 1).map (fun l=>zjq zra zdv (l.getD 0 0))=_
  rw[one hm];rfl) (by decide)
 have b:Rd ⟨⟨[],[],[],0,[],[],m⟩,[],0,[zdv]⟩ [ln zgd [.n f]] ⟨⟨[],[],[],f,[],[],m⟩,[],0,[zdv,zgd]⟩:=zir (kw := .single) (zi4 (by decide)) (gd hf) (by decide) (by decide) (by
  show (zf9 [zba (.n f)] 1).map (fun l=>zjq _ zgd (l.getD 0 0))=_
  rw[one hf];rfl) (by show zvv [zdv] zgd=false;decide)
 have c:Rd ⟨⟨[],[],[],f,[],[],m⟩,[],0,[zdv,zgd]⟩ [ln zno [.n i]] (st1 m f i):=zir (kw := .single) (zi4 (by decide)) (gd hi) (by decide) (by decide) (by
  show (zf9 [zba (.n i)] 1).map (fun l=>zjq _ zno (l.getD 0 0))=_
  rw[one hi];rfl) (by show zvv [zdv,zgd] zno=false;decide)
 exact (a.app b).app c
theorem zbt6:∀ (l:List Pt) (st:RSt),l.foldl addP st=zfj st { st.sy with pts:=st.sy.pts ++ l }
 | [],st=>by rw[List.foldl_nil,List.append_nil];rfl
 | x :: l,st=>by rw[List.foldl_cons,zbt6 l];show zfj _ _=_;unfold zfj addP;simp
theorem zbt7:∀ (l:List Gr) (st:RSt),l.foldl addG st=zfj st { st.sy with grs:=st.sy.grs ++ l }
 | [],st=>by rw[List.foldl_nil,List.append_nil];rfl
 | x :: l,st=>by rw[List.foldl_cons,zbt7 l];show zfj _ _=_;unfold zfj addG;simp
theorem zbt8:∀ (l:List Port) (st:RSt),l.foldl addQ st=zfj st { st.sy with prs:=st.sy.prs ++ l }
 | [],st=>by rw[List.foldl_nil,List.append_nil];rfl
 | x :: l,st=>by rw[List.foldl_cons,zbt8 l];show zfj _ _=_;unfold zfj addQ;simp
theorem zbt9:∀ (l:List Win) (st:RSt),l.foldl z83 st=zfj st { st.sy with wins:=st.sy.wins ++ l }
 | [],st=>by rw[List.foldl_nil,List.append_nil];rfl
 | x :: l,st=>by rw[List.foldl_cons,zbt9 l];show zfj _ _=_;unfold zfj z83;simp
theorem zbua:∀ (l:List PUn) (st:RSt),l.foldl zboq st=zfj st { st.sy with uns:=st.sy.uns ++ l }
 | [],st=>by rw[List.foldl_nil,List.append_nil];rfl
 | x :: l,st=>by rw[List.foldl_cons,zbua l];unfold zboq zfj;simp
theorem zbub:∀ (l:List PUs) (st:RSt),l.foldl (fun st u=>zv1 st (st.us ++ [u])) st=zv1 st (st.us ++ l)
 | [],st=>by rw[List.foldl_nil,List.append_nil];rfl
 | x :: l,st=>by rw[List.foldl_cons,zbub l];unfold zv1;simp
def zbiw (s:Se3):List ByteArray:=[ln zdv [.n s.sy.millis]] ++ [ln zgd [.n s.sy.frame]] ++ [ln zno [.n s.idle]] ++ (s.sy.pts.flatMap fun p=>[ptLn p]) ++ (s.sy.grs.flatMap fun g=>[grLn g]) ++ (s.sy.prs.flatMap fun q=>[prLn q]) ++ (s.sy.wins.flatMap fun w=>[wnLn w]) ++ s.sy.uns.flatMap unLn ++ s.us.flatMap usLn
theorem zbzg {s:Se3} (h:zou s.sy s.us s.idle=0):Rd zra (zbiw s) ⟨s.sy,s.us,s.idle,O3⟩:=by
 obtain⟨h1,h2,h3,h4⟩:=zbit h
 obtain⟨u1,u2⟩:=zbnj h2
 obtain⟨p1,p2,p3,p4,p5,p6⟩:=zbis h1.plan
 obtain⟨b1,b2,b3⟩:=zt7 h1.chkB
 obtain⟨q1,q2⟩:=zyy h1.chkP
 have hm:=h1.millis
 have r0:=zbwv (m:=s.sy.millis) (f:=s.sy.frame) (i:=s.idle) ⟨by omega,by omega⟩ ⟨by omega,by omega⟩ ⟨by omega,by omega⟩
 have r1:=Rd.list (f:=fun p=>[ptLn p]) (g:=addP) (Inv:=fun st=>st.once=O3) (l:=s.sy.pts) (st:=st1 s.sy.millis s.sy.frame s.idle) rfl fun st p hp ho=>⟨zb0r ho (by
  have:=b2 p hp
  unfold z62 at this
  omega),ho⟩
 have r2:=Rd.list (f:=fun g=>[grLn g]) (g:=addG) (Inv:=fun st=>st.once=O3) (l:=s.sy.grs) r1.2 fun st g hg ho=>⟨zb0s ho (by
  have:=b3 g hg
  exact⟨⟨by omega,by omega⟩,⟨by omega,by omega⟩⟩),ho⟩
 have r3:=Rd.list (f:=fun q=>[prLn q]) (g:=addQ) (Inv:=fun st=>st.once=O3) (l:=s.sy.prs) r2.2 fun st q hq ho=>by
  obtain⟨c1,c2,c3,c4,c5,c6,c7⟩:=zbtt (q2 q hq)
  exact⟨zb0t ho c1 ⟨by omega,by omega⟩ ⟨by omega,by omega⟩ c4 ⟨by omega,by omega⟩ c5,ho⟩
 have r4:=Rd.list (f:=fun w=>[wnLn w]) (g:=z83) (Inv:=fun st=>st.once=O3) (l:=s.sy.wins) r3.2 fun st w hw ho=>by
  have:=p6 w hw
  refine⟨zb0u ho ?_ ⟨by omega,by omega⟩ ⟨by omega,by omega⟩,ho⟩
  by_cases c:w.part = -1
  ·exact .inl c
  ·exact .inr ⟨by omega,by omega⟩
 have hin:∀ b,inB s.sy b→(b.kind=1∨b.kind=2)∧zj5 b.n:=fun b hb=>by
  rcases hb with⟨c1,c2,c3⟩ | ⟨c1,c2,c3⟩
  ·exact⟨.inl c1,by omega,by omega⟩
  ·exact⟨.inr c1,by omega,by omega⟩
 have r5:=Rd.list (f:=unLn) (g:=zboq) (Inv:=fun st=>st.once=O3) (l:=s.sy.uns) r4.2 fun st u hu ho=>by
  obtain⟨_,c1,c2⟩:=zbtu h1 u hu
  exact⟨zb0v ho (fun b hb=>hin b (c1 b hb)) (fun b hb=>hin b (c2 b hb)),ho⟩
 have r6:=Rd.list (f:=usLn) (g:=fun st u=>zv1 st (st.us ++ [u])) (Inv:=fun st=>st.once=O3) (l:=s.us) r5.2 fun st u hu ho=>by
  obtain⟨c1,c2,c3⟩:=u2 u hu
  exact⟨zb0w ho c1 c2.key.1 (fun r hr=>by
   have:=c2.rs r hr
   have:=c3 r hr
   exact⟨⟨by omega,by omega⟩,by omega,by omega⟩),ho⟩
 have fin:=(((((r0.app r1.1).app r2.1).app r3.1).app r4.1).app r5.1).app r6.1
 rw[zbub,zbua,zbt9,zbt8,zbt7,zbt6] at fin
 exact fin
def tb (l:List UInt8):List (BitVec 8):=l.map UInt8.toBitVec
theorem zbli:∀ (ds:List Wd) (k:ByteArray),jn (k :: ds.map zba)=bv k ++ tb (zsv ds)
 | [],k=>by simp[jn,zsv,tb]
 | d :: ds,k=>by
  rw[List.map_cons,jn,zbli ds (zba d),zblc]
  unfold tb
  simp[zsv]
theorem zj6 (k:ByteArray) (ds:List Wd):zks [ln k ds]=tb (zgl k ds):=by
 rw[zbeg]
 unfold ln
 rw[zrt,zbli]
 unfold tb zgl
 simp[zks,bv]
theorem zoe {α:Type} {f:α→List ByteArray} {g:α→List UInt8}:∀ {l:List α},(∀ x∈l,zks (f x)=tb (g x))→zks (l.flatMap f)=tb (l.flatMap g)
 | [],_=>rfl
 | x :: l,h=>by
  rw[List.flatMap_cons,List.flatMap_cons,zds,h x (by simp),zoe (l:=l) (fun y hy=>h y (by simp[hy]))]
  unfold tb
  rw[List.map_append]
theorem z4a {α:Type} {f:α→ByteArray} {g:α→List UInt8} (h:∀ x,zks [f x]=tb (g x)):∀ l:List α,zks (l.map f)=tb (l.flatMap g)
 | []=>rfl
 | x :: l=>by
  have:=z4a h l
  rw[List.map_cons,List.flatMap_cons,show f x :: l.map f=[f x] ++ l.map f from rfl,zds,h x,this]
  unfold tb
  rw[List.map_append]
theorem zbno (s:Se3):zks (zbiw s)=tb (zwv s):=by
 have a1:zks (s.sy.pts.flatMap fun p=>[ptLn p])=tb (s.sy.pts.flatMap z0g):=zoe fun p _=>zj6 _ _
 have a2:zks (s.sy.grs.flatMap fun p=>[grLn p])=tb (s.sy.grs.flatMap z0h):=zoe fun p _=>zj6 _ _
 have a3:zks (s.sy.prs.flatMap fun p=>[prLn p])=tb (s.sy.prs.flatMap zqf):=zoe fun p _=>by
  unfold prLn zqf
  split <;> exact zj6 _ _
 have a4:zks (s.sy.wins.flatMap fun p=>[wnLn p])=tb (s.sy.wins.flatMap zqg):=zoe fun p _=>by
  unfold wnLn zqg
  split <;> exact zj6 _ _
 have a5:zks (s.sy.uns.flatMap unLn)=tb (s.sy.uns.flatMap zqh):=zoe fun u _=>by
  unfold unLn zqh
  rw[zds,zds,zj6,z4a (f:=bdLn zq9) (g:=zm7 zq9) (fun b=>zj6 _ _),z4a (f:=bdLn zyz) (g:=zm7 zyz) (fun b=>zj6 _ _)]
  unfold tb
  rw[List.map_append,List.map_append]
 have a6:zks (s.us.flatMap usLn)=tb (s.us.flatMap zrn):=zoe fun u _=>by
  unfold usLn zrn
  rw[zds,zj6,z4a (f:=rlLn) (g:=z3i) (fun b=>zj6 _ _)]
  unfold tb
  rw[List.map_append]
 unfold zbiw
 rw[zds,zds,zds,zds,zds,zds,zds,zds,a1,a2,a3,a4,a5,a6,zj6,zj6,zj6]
 unfold zwv zbeq zy2 tb
 simp only[List.map_append,List.append_assoc]
theorem zbqp {s:Se3} (h:zou s.sy s.us s.idle=0) (hl:¬ (zwv s).length > 65536):zhx ⟨(zwv s).toArray⟩=(s,0,0):=by
 have hr:=zbzg h
 rw[zbne (t:=⟨(zwv s).toArray⟩) (ls:=zbiw s) (by rw[zbwm];omega) (by rw[zbxf];exact (zbno s).symm) hr.2,hr.done]
 simp only
 rw[if_neg (fun q=>q h)]
end Go.AM.Cap

/- conf: ConfLines -/
set_option maxHeartbeats 16000000
namespace Go.AM.Cap
open Go.AM Go.Proofs
variable {H:Heap}
end Go.AM.Cap
