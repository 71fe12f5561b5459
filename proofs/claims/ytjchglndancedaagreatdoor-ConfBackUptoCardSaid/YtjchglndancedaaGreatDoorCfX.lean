import Derived.Test.YtjchglndancedaaGreatDoorCfW
import Derived.Test.YtjchglndancedaaGreatDoorAmIn
set_option linter.all false
/- conf: the same setup; works -/
set_option maxHeartbeats 16000000
namespace Go.AM.Cap
open Go.AM Go.Proofs
variable {H0 H:Heap}
theorem zbbd {id:Nat} {zero:List V} {H:Heap} {Q:V→Heap→Prop} (h:H.get id=none) (hl:id < H.next) (hz:zero.all zfv=true):wp (flt id (newc zero)) Q H↔Q (ptr id 0) (H.set id (some (.cells true zero))):=by
 have e:newc zero Heap.none0=some (ptr 0 0,Heap.one (.cells true zero)):=by
  simp only[newc,hz,if_true];rfl
 have hb:Nat.blt id H.next=true:=by simpa[Nat.blt_eq] using hl
 have ef:flt id (newc zero) H=some (ptr id 0,H.set id (some (.cells true zero))):=by
  simp only[flt,e,Heap.one?_one,h,hb,cond_true,zrp]
 constructor
 ·rintro⟨a,H',h1,h2⟩
  rw[ef] at h1;cases h1;exact h2
 ·intro hq;exact⟨_,_,ef,hq⟩
theorem zbv1 {α:Type} [Flat α] {v:V} {l:List α} {n j:Nat} (hs:Flat.size α=n) (h:Sl H v l) (hj:j < l.length) (d:α) (hv:∀ c∈Flat.enc (l.getD j d),vEq.vEq1 c c=true):chk (ldn n (ptr (slB v) (slO v + j * n))) H (.agg (Flat.enc (l.getD j d)).toArray)=true:=by
 have:wp (ldn n (ptr (slB v) (slO v + j * n))) (fun r _=>r = .agg (Flat.enc (l.getD j d)).toArray) H:=(h.ldn' hs hj d).mpr rfl
 obtain⟨r,H',h1,h2⟩:=this
 unfold chk
 rw[h1,h2]
 show vEq.vEqs (Flat.enc (l.getD j d)) (Flat.enc (l.getD j d))=true
 exact zbdz _ hv
theorem zbnd {a b p q:Nat} {j:V} {nm1 ky1 nm2 ky2:V} {v w:V} {l:List Rl} (ga:H.get a=some (.cells true [nm1,ky1,v])) (gb:H.get b=some (.cells true [nm2,ky2,w])) (hv:Sl H v l) (hw:Sl H w l) (hl:l.length≤1000000000) (Q:Out→Heap→Prop) (hQ:Q (.brk 2 [ptr p 0,ptr q 0,j]) H):wp (zbg zby zrl [ptr p 0,ptr q 0,j,ptr a 0,ptr b 0,i64 0]) Q H:=by
 have lv:=hv.len
 refine zb2 l.length (by omega) (fun k vs H'=>vs=[ptr p 0,ptr q 0,j,ptr a 0,ptr b 0,i64 k]∧H'=H) ⟨rfl,rfl⟩ ?_
 rintro k vs H1 hk ⟨rfl,rfl⟩
 by_cases hlt:k < l.length
 case neg =>
  have:k=l.length:=by omega
  subst this
  (try simp(maxSteps:=1000000)(disch:=first|omega|(simp only[Z3];omega)|(simp;done)|assumption|decide|(apply not_not_intro;assumption))only[ZB,zrl,ga,lv])
  exact hQ
 have a1:=hv.addr' (n:=2) rfl (k := .i64) (i:=k) (by omega) (by omega)
 have a2:=hw.addr' (n:=2) rfl (k := .i64) (i:=k) (by omega) (by omega)
 rw[Int.toNat_natCast] at a1 a2
 have d1:=fun Q=>hv.ldn' (Q:=Q) (n:=2) rfl hlt default
 have d2:=fun Q=>hw.ldn' (Q:=Q) (n:=2) rfl hlt default
 have ee:=zb0j (l.getD k default)
 (try simp(maxSteps:=1000000)(disch:=first|omega|(simp only[Z3];omega)|(simp;done)|assumption|decide|(apply not_not_intro;assumption))only[ZA,zp,zo,zm,zk,zj,zi,zh,ze,zrl,z5l,z5k,ga,gb,lv,a1,a2,d1,d2,ee])
 exact⟨hlt,rfl,trivial⟩
theorem zbog {cs ds:List V} {s:Se3} (h1:zkr H cs s) (h2:zkr H ds s) (hb:∀ u∈s.sy.uns,u.ins.length≤1000000000∧u.outs.length≤1000000000) (hl:s.us.length≤1000000000) (Q:V→Heap→Prop) (hQ:∀ H',Keeps [] H H'→Q (.bool true) H'):wp (zp5 [.agg cs.toArray,.agg ds.toArray]) Q H:=by
 obtain⟨x,v,ul,rfl,sx,ux,eu⟩:=h1
 obtain⟨y,w,wl,rfl,sy,uy,ew⟩:=h2
 show wp (zz7 (.agg (x.cs s.sy ++ [v,i64 s.idle]).toArray) (.agg (y.cs s.sy ++ [w,i64 s.idle]).toArray)) Q H
 have nu:s.us.length=ul.length:=by rw[← eu,List.length_map]
 have nw:s.us.length=wl.length:=by rw[← ew,List.length_map]
 have ox:(x.cs s.sy ++ [v,i64 s.idle]).all Value.isOne=true:=by rw[List.all_append,sx.one];simp[ux.out.isOne]
 have oy:(y.cs s.sy ++ [w,i64 s.idle]).all Value.isOne=true:=by rw[List.all_append,sy.one];simp[uy.out.isOne]
 have lu:=ux.out.len
 have lw:=uy.out.len
 unfold zz7
 rw[z6,z6]
 refine (zcg ox).mpr ?_
 have k1:Keeps [] H (H.push (some (.cells true (x.cs s.sy ++ [v,i64 s.idle])))):=Keeps.push _ _ _
 have gx:(H.push (some (.cells true (x.cs s.sy ++ [v,i64 s.idle])))).get H.next=some (.cells true (x.cs s.sy ++ [v,i64 s.idle])):=Heap.get_push_self _ _
 generalize H.next=p at *
 generalize H.push (some (.cells true (x.cs s.sy ++ [v,i64 s.idle])))=H1 at *
 rw[z6]
 refine (zcg oy).mpr ?_
 have k2:Keeps [] H1 (H1.push (some (.cells true (y.cs s.sy ++ [w,i64 s.idle])))):=Keeps.push _ _ _
 have gy:(H1.push (some (.cells true (y.cs s.sy ++ [w,i64 s.idle])))).get H1.next=some (.cells true (y.cs s.sy ++ [w,i64 s.idle])):=Heap.get_push_self _ _
 generalize H1.next=q at *
 generalize H1.push (some (.cells true (y.cs s.sy ++ [w,i64 s.idle])))=H2 at *
 have gx2:=k2.get gx (by simp)
 have k02:=k1.trans k2 (fun _ _ h=>h)
 have d1:∀ Q,wp (ldn 7 (ptr p 0)) Q H2↔Q (.agg (x.cs s.sy).toArray) H2:=fun Q=>by rw[zca,gx2,zsi (by show 0 + 7≤9;omega)];rfl
 have d2:∀ Q,wp (ldn 7 (ptr q 0)) Q H2↔Q (.agg (y.cs s.sy).toArray) H2:=fun Q=>by rw[zca,gy,zsi (by show 0 + 7≤9;omega)];rfl
 (try simp(maxSteps:=1000000)(disch:=first|omega|(simp only[Z3];omega)|(simp;done)|assumption|decide|(apply not_not_intro;assumption))only[ZA,zp,zo,zm,zk,zj,zi,zh,ze,d1,d2])
 refine zbfs (sx.keep0 k02) (sy.keep0 k02) hb _ fun H3 k3=>?_
 have k03:=k02.trans k3 (fun _ _ h=>h)
 have gx3:=k3.get gx2 (by simp)
 have gy3:=k3.get gy (by simp)
 have cx7:(x.cs s.sy ++ [v,i64 s.idle])[7]? = some v:=rfl
 have cx8:(x.cs s.sy ++ [v,i64 s.idle])[8]? = some (i64 s.idle):=rfl
 have cy7:(y.cs s.sy ++ [w,i64 s.idle])[7]? = some w:=rfl
 have cy8:(y.cs s.sy ++ [w,i64 s.idle])[8]? = some (i64 s.idle):=rfl
 have en:∀ n:Int,decide (n≠n)=false:=fun n=>by simp
 rw[← nu] at lu
 rw[← nw] at lw
 (try simp(maxSteps:=1000000)(disch:=first|omega|(simp only[Z3];omega)|(simp;done)|assumption|decide|(apply not_not_intro;assumption))only[ZA,zp,zo,zm,zk,zj,zi,zh,ze,gx3,gy3,cx7,cx8,cy7,cy8,lu,lw,en,z5q])
 refine zb2 s.us.length (by omega) (fun j vs H'=>vs=[ptr p 0,ptr q 0,i64 j]∧Keeps [] H3 H') ⟨rfl,Keeps.refl _ _⟩ ?_
 rintro j vs H4 hj ⟨rfl,k4⟩
 have gx4:=k4.get gx3 (by simp)
 have gy4:=k4.get gy3 (by simp)
 have k04:=k03.trans k4 (fun _ _ h=>h)
 by_cases hlt:j < s.us.length
 case neg =>
  have:j=s.us.length:=by omega
  subst this
  (try simp(maxSteps:=1000000)(disch:=first|omega|(simp only[Z3];omega)|(simp;done)|assumption|decide|(apply not_not_intro;assumption))only[ZB,zxu,gx4,cx7,lu,z5p])
  exact hQ _ k04
 have hl1:j < ul.length:=by omega
 have hl2:j < wl.length:=by omega
 have e1:(ul.getD j default).p=s.us.getD j default:=by rw[← eu];exact (zt8 _ _ _ _ _ hl1).symm
 have e2:(wl.getD j default).p=s.us.getD j default:=by rw[← ew];exact (zt8 _ _ _ _ _ hl2).symm
 have ep:(ul.getD j default).p=(wl.getD j default).p:=e1.trans e2.symm
 have en1:(ul.getD j default).name=(wl.getD j default).name:=congrArg PUs.name ep
 have ek1:(ul.getD j default).key=(wl.getD j default).key:=congrArg PUs.key ep
 have er1:(ul.getD j default).rs.xs=(wl.getD j default).rs.xs:=congrArg PUs.rs ep
 have kr:=zbc1 2 H4
 have kr1:=zbgf 2 H4
 have hfr:∀ b,H4.next≤b→(ztg H4 2).get b=none:=fun b hb=>zbge hb
 have hpq:p < H4.next∧q < H4.next:=⟨Heap.get_lt gx4,Heap.get_lt gy4⟩
 (try simp(maxSteps:=1000000)(disch:=first|omega|(simp only[Z3];omega)|(simp;done)|assumption|decide|(apply not_not_intro;assumption))only[Z1,zcm,zru,zo,zbjy,eq_self,true_and,z3z,zsi,z1r,zcg,Heap.get_push_eq,Heap.get_push_lt,Heap.get_set_eq,Heap.get_set_ne',Heap.next_push',Heap.next_set',Heap.set_push_lt,Heap.set_push_eq,Heap.set_set,z1s,z1t,zj7,z1w,z1x,zuo,zya,z1y,z1l,zx8,z1m,z1n,z1o,z1p,List.set_cons_zero,List.set_cons_succ,List.length_cons,List.length_nil,List.drop_succ_cons,List.drop_zero,List.take_succ_cons,List.take_zero,List.nil_append,List.cons_append,splice,zx5,zx6,zun,zrs,zna,zx7,z1u,zx9,zbcy,z7x,z1v,zm,zb9,ze,zk,Option.map_some,zuq,zj,zi,zh,zup,zyb,zyc,zxu,gx4,cx7,lu,z5o,zrr])
 generalize ztg H4 2=R at *
 have k0R:=k04.trans kr (fun _ _ h=>h)
 have gxR:=kr.get gx4 (by simp)
 have gyR:=kr.get gy4 (by simp)
 have uxR:=ux.keep0 k0R
 have uyR:=uy.keep0 k0R
 have a1:=uxR.out.addr' (n:=3) rfl (k := .i64) (i:=j) (by omega) (by omega)
 have a2:=uyR.out.addr' (n:=3) rfl (k := .i64) (i:=j) (by omega) (by omega)
 rw[Int.toNat_natCast] at a1 a2
 have f1:=fun Q=>uxR.out.ldn' (Q:=Q) (n:=3) rfl hl1 default
 have f2:=fun Q=>uyR.out.ldn' (Q:=Q) (n:=3) rfl hl2 default
 (try simp(maxSteps:=1000000)(disch:=first|omega|(simp only[Z3];omega)|(simp;done)|assumption|decide|(apply not_not_intro;assumption))only[Z1,zcm,zru,zo,zbjy,eq_self,true_and,z3z,zsi,z1r,zcg,Heap.get_push_eq,Heap.get_push_lt,Heap.get_set_eq,Heap.get_set_ne',Heap.next_push',Heap.next_set',Heap.set_push_lt,Heap.set_push_eq,Heap.set_set,z1s,z1t,zj7,z1w,z1x,zuo,zya,z1y,z1l,zx8,z1m,z1n,z1o,z1p,List.set_cons_zero,List.set_cons_succ,List.length_cons,List.length_nil,List.drop_succ_cons,List.drop_zero,List.take_succ_cons,List.take_zero,List.nil_append,List.cons_append,splice,zx5,zx6,zun,zrs,zna,zx7,z1u,zx9,zbcy,z7x,z1v,zm,zb9,ze,zk,Option.map_some,zuq,zj,zi,zh,zup,zyb,zyc,gxR,gyR,cx7,cy7,a1,a2,f1,f2,zxv])
 have sroll:=(uxR.at hl1)
 have sr1:=ux.at hl1
 have sr2:=uy.at hl2
 have srolw:=(uyR.at hl2)
 have selt:=fun (K:Heap) (hK:Sl K w wl)=>zbv1 (n:=3) rfl hK hl2 default (by
  intro c hc
  simp only[zxv,List.mem_cons,List.not_mem_nil,or_false] at hc
  rcases hc with rfl | rfl | rfl
  ·simp[vEq.vEq1]
  ·simp[vEq.vEq1]
  ·exact zz9 srolw.1)
 simp only[zxv] at selt
 have uyo:=uyR.out
 generalize ul.getD j default=u1 at *
 generalize hu2:wl.getD j default=u2 at *
 refine (zbbd (hfr _ (by omega)) (by omega) (by decide)).mpr ?_
 (try simp(maxSteps:=1000000)(disch:=first|omega|(simp only[Z3];omega)|(simp;done)|assumption|decide|(apply not_not_intro;assumption))only[ZA,zo,zm,zk,zj,zi,zh,ze])
 have z3:([Value.string ⟨#[]⟩,Value.string ⟨#[]⟩,Value.slice none 0 0]:List V).all zfv=true:=by decide
 have hRn:R.next=H4.next + 2:=kr1
 refine (zbbd (by rw[Heap.get_set_ne _ _ _ (by omega)];exact hfr _ (by omega)) (by simp;omega) z3).mpr ?_
 have gA:((R.set H4.next (some (.cells true [Value.string ⟨#[]⟩,Value.string ⟨#[]⟩,Value.slice none 0 0]))).set (H4.next + 1) (some (.cells true [Value.string ⟨#[]⟩,Value.string ⟨#[]⟩,Value.slice none 0 0]))).get H4.next=some (.cells true [Value.string ⟨#[]⟩,Value.string ⟨#[]⟩,Value.slice none 0 0]):=by
  rw[Heap.get_set_ne _ _ _ (by omega),Heap.get_set_self (by omega)]
 have gB:((R.set H4.next (some (.cells true [Value.string ⟨#[]⟩,Value.string ⟨#[]⟩,Value.slice none 0 0]))).set (H4.next + 1) (some (.cells true [Value.string ⟨#[]⟩,Value.string ⟨#[]⟩,Value.slice none 0 0]))).get (H4.next + 1)=some (.cells true [Value.string ⟨#[]⟩,Value.string ⟨#[]⟩,Value.slice none 0 0]):=by
  rw[Heap.get_set_self (by simp;omega)]
 have kB:Keeps [H4.next,H4.next + 1] R ((R.set H4.next (some (.cells true [Value.string ⟨#[]⟩,Value.string ⟨#[]⟩,Value.slice none 0 0]))).set (H4.next + 1) (some (.cells true [Value.string ⟨#[]⟩,Value.string ⟨#[]⟩,Value.slice none 0 0]))):=zbw (zbw (Keeps.refl _ _) (.inl (by simp))) (.inl (by simp))
 have nB:((R.set H4.next (some (.cells true [Value.string ⟨#[]⟩,Value.string ⟨#[]⟩,Value.slice none 0 0]))).set (H4.next + 1) (some (.cells true [Value.string ⟨#[]⟩,Value.string ⟨#[]⟩,Value.slice none 0 0]))).next=H4.next + 2:=by simp[hRn]
 generalize (R.set H4.next (some (.cells true [Value.string ⟨#[]⟩,Value.string ⟨#[]⟩,Value.slice none 0 0]))).set (H4.next + 1) (some (.cells true [Value.string ⟨#[]⟩,Value.string ⟨#[]⟩,Value.slice none 0 0]))=B at *
 have w1:=fun Q=>zc4 (n:=3) (Q:=Q) gA rfl rfl (z29 u1)
 have hBa:B.get H4.next=some (.cells true [Value.string ⟨#[]⟩,Value.string ⟨#[]⟩,Value.slice none 0 0]):=gA
 (try simp(maxSteps:=1000000)(disch:=first|omega|(simp only[Z3];omega)|(simp;done)|assumption|decide|(apply not_not_intro;assumption))only[ZA,zo,zm,zk,zj,zi,zh,ze,w1])
 have gC:(B.set H4.next (some (.cells true [.string u1.name,.string u1.key,u1.rs.v]))).get (H4.next + 1)=some (.cells true [Value.string ⟨#[]⟩,Value.string ⟨#[]⟩,Value.slice none 0 0]):=by rw[Heap.get_set_ne _ _ _ (by omega)];exact gB
 have gC1:(B.set H4.next (some (.cells true [.string u1.name,.string u1.key,u1.rs.v]))).get H4.next=some (.cells true [.string u1.name,.string u1.key,u1.rs.v]):=by rw[Heap.get_set_self (by omega)]
 have kC:Keeps [H4.next,H4.next + 1] R (B.set H4.next (some (.cells true [.string u1.name,.string u1.key,u1.rs.v]))):=zbw kB (.inl (by simp))
 have nC:(B.set H4.next (some (.cells true [.string u1.name,.string u1.key,u1.rs.v]))).next=H4.next + 2:=by simp[nB]
 generalize B.set H4.next (some (.cells true [.string u1.name,.string u1.key,u1.rs.v]))=C at *
 have w2:=fun Q=>zc4 (n:=3) (Q:=Q) gC rfl rfl (z29 u2)
 have hdis:∀ b∈vb w,b ∉ [H4.next,H4.next + 1]:=fun b hb hm=>by
  have:=uy.out.lt b hb
  have:=k04.next
  simp at hm;omega
 have ck0:zjh (zie (B.get q) 7) w=true:=by
  rw[kB.same q (by omega) (by simp;omega),gyR]
  exact zqe uyR.out
 have ck1:zjh (zie (C.get q) 7) w=true:=by
  rw[kC.same q (by omega) (by simp;omega),gyR]
  exact zqe uyR.out
 have ck2:=selt C (uyo.keep kC hdis)
 (try simp(maxSteps:=1000000)(disch:=first|omega|(simp only[Z3];omega)|(simp;done)|assumption|decide|(apply not_not_intro;assumption))only[ZA,zo,zm,zk,zj,zi,zh,ze,w2])
 have gD:(C.set (H4.next + 1) (some (.cells true [.string u2.name,.string u2.key,u2.rs.v]))).get (H4.next + 1)=some (.cells true [.string u2.name,.string u2.key,u2.rs.v]):=by rw[Heap.get_set_self (by omega)]
 have gD1:(C.set (H4.next + 1) (some (.cells true [.string u2.name,.string u2.key,u2.rs.v]))).get H4.next=some (.cells true [.string u1.name,.string u1.key,u1.rs.v]):=by rw[Heap.get_set_ne _ _ _ (by omega)];exact gC1
 have kD:Keeps [H4.next,H4.next + 1] R (C.set (H4.next + 1) (some (.cells true [.string u2.name,.string u2.key,u2.rs.v]))):=zbw kC (.inl (by simp))
 generalize C.set (H4.next + 1) (some (.cells true [.string u2.name,.string u2.key,u2.rs.v]))=D at *
 have hs1:∀ {α:Type} [Flat α] {v:V} {l:List α},Sl H v l→Sl D v l:=fun {α} _ {v} {l} hv=>(hv.keep0 k0R).keep kD (fun b hb hm=>by
  have:=hv.lt b hb
  have:=k04.next
  simp at hm;omega)
 have l1:=sroll.1.len
 have l2:=srolw.1.len
 rw[er1] at l1
 have eN:decide (u2.name≠u2.name)=false:=by simp
 have eK:decide (u2.key≠u2.key)=false:=by simp
 (try simp(maxSteps:=1000000)(disch:=first|omega|(simp only[Z3];omega)|(simp;done)|assumption|decide|(apply not_not_intro;assumption))only[ZB,ck0,ck1,ck2,gD,gD1,en1,ek1,l1,l2,eN,eK,en,z5m])
 have q1:=hs1 sr1.1
 rw[er1] at q1
 refine zbnd gD1 gD q1 (hs1 sr2.1) (by omega) _ ?_
 (try simp(maxSteps:=1000000)(disch:=first|omega|(simp only[Z3];omega)|(simp;done)|assumption|decide|(apply not_not_intro;assumption))only[ZB,z5n])
 have kF:Keeps [] H4 D:=kr.trans kD (fun b hb hm=>by simp at hm;omega)
 exact⟨hlt,rfl,k4.trans kF (fun _ _ h=>h)⟩
def txA:ByteArray:=⟨#[109,105,108,108,105,115,32,49,48,10,102,114,97,109,101,32,53,48,10,105,100,108,101,32,57,10,119,105,110,100,111,119,32,48,32,48,32,50,48,10,117,110,105,116,10]⟩
def txB:ByteArray:=⟨#[109,105,108,108,105,115,32,49,48,10,109,105,108,108,105,115,32,49,48,10]⟩
def seW:Se3:=⟨⟨[],[],[],50,[⟨0,0,20⟩],[⟨[],[]⟩],10⟩,[],9⟩
theorem zb0k:zhx txA=(seW,0,0):=by kernel_rfl
theorem zb0l:zhx txB=(se0,2,6):=by kernel_rfl
theorem zbs7 {G:List V→M V} (hT:Tabs H) (Q:V→Heap→Prop) (hQ:∀ H',Keeps [] H H'→Q (.bool true) H'):wp (zrk zkk G zcn zsu []) Q H:=by
 show wp (zxs zkk G zcn zsu) Q H
 unfold zxs
 rw[z6,z6]
 refine z3g hT txA _ fun cs H1 h1 k1=>?_
 rw[zb0k] at h1 ⊢
 obtain⟨x,v,l,rfl,sx,ux,eu⟩:=h1
 have ox:(x.cs seW.sy ++ [v,i64 seW.idle]).all Value.isOne=true:=by rw[List.all_append,sx.one];simp[ux.out.isOne]
 have g1:(H1.push (some (.cells true z9))).get H1.next=some (.cells true z9):=Heap.get_push_self _ _
 have w1:=fun Q=>zc4 (n:=9) (Q:=Q) g1 rfl rfl ox
 have e1:∀ Q,wp (newc [Value.slice none 0 0,Value.slice none 0 0,Value.slice none 0 0,Value.int .i64 0,Value.slice none 0 0,Value.slice none 0 0,Value.int .i64 0,Value.slice none 0 0,Value.int .i64 0]) Q H1↔Q (ptr H1.next 0) (H1.push (some (.cells true z9))):=fun Q=>z3x (by decide)
 simp only[z6,zzi,zj7,List.getElem?_cons_zero,List.getElem?_cons_succ,zum,e1,w1]
 have k2:Keeps [] H1 ((H1.push (some (.cells true z9))).set H1.next (some (.cells true (x.cs seW.sy ++ [v,i64 seW.idle])))):=zbw (Keeps.push _ _ _) (.inr (Nat.le_refl _))
 have g2:((H1.push (some (.cells true z9))).set H1.next (some (.cells true (x.cs seW.sy ++ [v,i64 seW.idle])))).get H1.next=some (.cells true (x.cs seW.sy ++ [v,i64 seW.idle])):=Heap.get_set_self (by simp)
 generalize H1.next=p at *
 generalize (H1.push (some (.cells true z9))).set p (some (.cells true (x.cs seW.sy ++ [v,i64 seW.idle])))=H2 at *
 have k02:=k1.trans k2 (fun _ _ h=>h)
 refine z3g (hT.keep0 k02) txB _ fun ds H3 h3 k3=>?_
 rw[zb0l] at h3 ⊢
 have k03:=k02.trans k3 (fun _ _ h=>h)
 have g3:=k3.get g2 (by simp)
 obtain⟨y,w,m,rfl,sy,uy,em⟩:=h3
 have oy:(y.cs se0.sy ++ [w,i64 se0.idle]).all Value.isOne=true:=by rw[List.all_append,sy.one];simp[uy.out.isOne]
 have sw:=(sx.wins.keep0 k2).keep0 k3
 obtain⟨ul,hul,eul⟩:=sx.uns
 have su:=(hul.out.keep0 k2).keep0 k3
 have lu:=su.len
 have hul1:ul.length=1:=by have:=congrArg List.length eul;rw[List.length_map] at this;exact this
 rw[hul1] at lu
 have g4:(H3.push (some (.cells true z9))).get H3.next=some (.cells true z9):=Heap.get_push_self _ _
 have w4:=fun Q=>zc4 (n:=9) (Q:=Q) g4 rfl rfl oy
 have e4:∀ Q,wp (newc [Value.slice none 0 0,Value.slice none 0 0,Value.slice none 0 0,Value.int .i64 0,Value.slice none 0 0,Value.slice none 0 0,Value.int .i64 0,Value.slice none 0 0,Value.int .i64 0]) Q H3↔Q (ptr H3.next 0) (H3.push (some (.cells true z9))):=fun Q=>z3x (by decide)
 simp only[z6,zzi,zj7,List.getElem?_cons_zero,List.getElem?_cons_succ,zum,e4,w4]
 have k4:Keeps [] H3 ((H3.push (some (.cells true z9))).set H3.next (some (.cells true (y.cs se0.sy ++ [w,i64 se0.idle])))):=zbw (Keeps.push _ _ _) (.inr (Nat.le_refl _))
 generalize (H3.push (some (.cells true z9))).set H3.next (some (.cells true (y.cs se0.sy ++ [w,i64 se0.idle])))=H4 at *
 have g5:=k4.get g3 (by simp)
 have sw4:=sw.keep0 k4
 have lw:=sw4.len
 have a1:=sw4.addr' (n:=3) rfl (k := .i64) (i:=0) (by decide) (by decide)
 have d1:=fun Q=>sw4.ldn' (Q:=Q) (n:=3) rfl (i:=0) (by decide) default
 have ex:x.cs seW.sy ++ [v,i64 seW.idle]=[x.pv,x.gv,x.qv,i64 50,x.wv,x.uv,i64 10,v,i64 9]:=rfl
 have lw':zv x.wv=some (i64 1):=lw
 have lu':zv x.uv=some (i64 1):=lu
 have a1':zx 3 x.wv (Value.int .i64 0)=some (ptr (slB x.wv) (slO x.wv + 0 * 3)):=a1
 have ee:zcz false (zho [.i,.i,.i] (.agg (Flat.enc (seW.sy.wins.getD 0 default)).toArray) (.agg #[i64 0,i64 0,i64 20]))=some (.bool true):=rfl
 have eb:build [Value.int .i64 0,Value.int .i64 0,(Value.int .i64 0:V)] [(2,1,Value.int .i64 20)]=some (.agg #[i64 0,i64 0,i64 20]):=rfl
 have t1:decide ((0:Int)=0)=true:=rfl
 have t2:decide ((10:Int)=10)=true:=rfl
 have t3:decide ((50:Int)=50)=true:=rfl
 have t4:decide ((9:Int)=9)=true:=rfl
 have t5:decide ((1:Int)=1)=true:=rfl
 have t6:decide ((2:Int)=2)=true:=rfl
 have t7:decide ((6:Int)=6)=true:=rfl
 (try simp(maxSteps:=1000000)(disch:=first|omega|(simp only[Z3];omega)|(simp;done)|assumption|decide|(apply not_not_intro;assumption))only[ZA,zp,zo,zk,zj,zi,zh,ze,g5,ex,lw',lu',a1',d1,eb,ee,t1,t2,t3,t4,t5,t6,t7])
 exact hQ _ (k03.trans k4 (fun _ _ h=>h))
end Go.AM.Cap
