import Derived.Test.YtjchglndancedaaGreatDoorCfV
import Derived.Test.YtjchglndancedaaGreatDoorAmIn
set_option linter.all false
/- conf: the same setup (printed by gencw.py) -/
set_option maxHeartbeats 16000000
namespace Go.AM.Cap
open Go.AM Go.Proofs
variable {H0 H:Heap}
theorem zb0g (p:Pt):zcz true (zho [.i,.b] (.agg (Flat.enc p).toArray) (.agg (Flat.enc p).toArray))=some (.bool false):=by
 simp[zbh6,zho,zm8,eqK,zcz]
theorem zb0h (p:Gr):zcz true (zho [.i,.i,.b] (.agg (Flat.enc p).toArray) (.agg (Flat.enc p).toArray))=some (.bool false):=by
 simp[zvs,zho,zm8,eqK,zcz]
theorem zbv0 (p:Port):zcz true (zho [.i,.i,.i,.i,.i] (.agg (Flat.enc p).toArray) (.agg (Flat.enc p).toArray))=some (.bool false):=by
 simp[z27,zho,zm8,eqK,zcz]
theorem zbyv (p:Win):zcz true (zho [.i,.i,.i] (.agg (Flat.enc p).toArray) (.agg (Flat.enc p).toArray))=some (.bool false):=by
 simp[znt,zho,zm8,eqK,zcz]
theorem zb0i (p:Bd):zcz true (zho [.i,.i] (.agg (Flat.enc p).toArray) (.agg (Flat.enc p).toArray))=some (.bool false):=by
 simp[zz8,zho,zm8,eqK,zcz]
theorem zb0j (p:Rl):zcz true (zho [.i,.i] (.agg (Flat.enc p).toArray) (.agg (Flat.enc p).toArray))=some (.bool false):=by
 simp[zbmx,zho,zm8,eqK,zcz]
theorem zbs3 {p q:Nat} {x y:SyV} {s:Sy} (gp:H.get p=some (.cells true (x.cs s))) (gq:H.get q=some (.cells true (y.cs s))) (hx:SysAt H x s) (hy:SysAt H y s) (Q:Out→Heap→Prop) (hQ:Q (.brk 0 [ptr p 0,ptr q 0]) H):wp (zbg zby zin [ptr p 0,ptr q 0,i64 0]) Q H:=by
 have hsm:=hx.small
 have lx:=hx.pts.len
 have ex:(x.cs s)[0]? = some x.pv:=rfl
 have ey:(y.cs s)[0]? = some y.pv:=rfl
 refine zb2 s.pts.length (by omega) (fun j vs H'=>vs=[ptr p 0,ptr q 0,i64 j]∧H'=H) ⟨rfl,rfl⟩ ?_
 rintro j vs H1 hj ⟨rfl,rfl⟩
 by_cases hlt:j < s.pts.length
 case neg =>
  have:j=s.pts.length:=by omega
  subst this
  (try simp(maxSteps:=1000000)(disch:=first|omega|(simp only[Z3];omega)|(simp;done)|assumption|decide|(apply not_not_intro;assumption))only[ZB,zin,gp,ex,lx])
  exact hQ
 have a1:=hx.pts.addr' (n:=2) rfl (k := .i64) (i:=j) (by omega) (by omega)
 have a2:=hy.pts.addr' (n:=2) rfl (k := .i64) (i:=j) (by omega) (by omega)
 rw[Int.toNat_natCast] at a1 a2
 have d1:=fun Q=>hx.pts.ldn' (Q:=Q) (n:=2) rfl hlt default
 have d2:=fun Q=>hy.pts.ldn' (Q:=Q) (n:=2) rfl hlt default
 have ee:=zb0g (s.pts.getD j default)
 (try simp(maxSteps:=1000000)(disch:=first|omega|(simp only[Z3];omega)|(simp;done)|assumption|decide|(apply not_not_intro;assumption))only[ZA,zp,zo,zm,zk,zj,zi,zh,ze,zin,zta,zs9,gp,gq,ex,ey,lx,a1,a2,d1,d2,ee])
 exact⟨hlt,rfl,trivial⟩
theorem zbs4 {p q:Nat} {x y:SyV} {s:Sy} (gp:H.get p=some (.cells true (x.cs s))) (gq:H.get q=some (.cells true (y.cs s))) (hx:SysAt H x s) (hy:SysAt H y s) (Q:Out→Heap→Prop) (hQ:Q (.brk 2 [ptr p 0,ptr q 0]) H):wp (zbg zby zio [ptr p 0,ptr q 0,i64 0]) Q H:=by
 have hsm:=hx.small
 have lx:=hx.grs.len
 have ex:(x.cs s)[1]? = some x.gv:=rfl
 have ey:(y.cs s)[1]? = some y.gv:=rfl
 refine zb2 s.grs.length (by omega) (fun j vs H'=>vs=[ptr p 0,ptr q 0,i64 j]∧H'=H) ⟨rfl,rfl⟩ ?_
 rintro j vs H1 hj ⟨rfl,rfl⟩
 by_cases hlt:j < s.grs.length
 case neg =>
  have:j=s.grs.length:=by omega
  subst this
  (try simp(maxSteps:=1000000)(disch:=first|omega|(simp only[Z3];omega)|(simp;done)|assumption|decide|(apply not_not_intro;assumption))only[ZB,zio,gp,ex,lx])
  exact hQ
 have a1:=hx.grs.addr' (n:=3) rfl (k := .i64) (i:=j) (by omega) (by omega)
 have a2:=hy.grs.addr' (n:=3) rfl (k := .i64) (i:=j) (by omega) (by omega)
 rw[Int.toNat_natCast] at a1 a2
 have d1:=fun Q=>hx.grs.ldn' (Q:=Q) (n:=3) rfl hlt default
 have d2:=fun Q=>hy.grs.ldn' (Q:=Q) (n:=3) rfl hlt default
 have ee:=zb0h (s.grs.getD j default)
 (try simp(maxSteps:=1000000)(disch:=first|omega|(simp only[Z3];omega)|(simp;done)|assumption|decide|(apply not_not_intro;assumption))only[ZA,zp,zo,zm,zk,zj,zi,zh,ze,zio,ztc,ztb,gp,gq,ex,ey,lx,a1,a2,d1,d2,ee])
 exact⟨hlt,rfl,trivial⟩
theorem zbs5 {p q:Nat} {x y:SyV} {s:Sy} (gp:H.get p=some (.cells true (x.cs s))) (gq:H.get q=some (.cells true (y.cs s))) (hx:SysAt H x s) (hy:SysAt H y s) (Q:Out→Heap→Prop) (hQ:Q (.brk 4 [ptr p 0,ptr q 0]) H):wp (zbg zby ziq [ptr p 0,ptr q 0,i64 0]) Q H:=by
 have hsm:=hx.small
 have lx:=hx.prs.len
 have ex:(x.cs s)[2]? = some x.qv:=rfl
 have ey:(y.cs s)[2]? = some y.qv:=rfl
 refine zb2 s.prs.length (by omega) (fun j vs H'=>vs=[ptr p 0,ptr q 0,i64 j]∧H'=H) ⟨rfl,rfl⟩ ?_
 rintro j vs H1 hj ⟨rfl,rfl⟩
 by_cases hlt:j < s.prs.length
 case neg =>
  have:j=s.prs.length:=by omega
  subst this
  (try simp(maxSteps:=1000000)(disch:=first|omega|(simp only[Z3];omega)|(simp;done)|assumption|decide|(apply not_not_intro;assumption))only[ZB,ziq,gp,ex,lx])
  exact hQ
 have a1:=hx.prs.addr' (n:=5) rfl (k := .i64) (i:=j) (by omega) (by omega)
 have a2:=hy.prs.addr' (n:=5) rfl (k := .i64) (i:=j) (by omega) (by omega)
 rw[Int.toNat_natCast] at a1 a2
 have d1:=fun Q=>hx.prs.ldn' (Q:=Q) (n:=5) rfl hlt default
 have d2:=fun Q=>hy.prs.ldn' (Q:=Q) (n:=5) rfl hlt default
 have ee:=zbv0 (s.prs.getD j default)
 (try simp(maxSteps:=1000000)(disch:=first|omega|(simp only[Z3];omega)|(simp;done)|assumption|decide|(apply not_not_intro;assumption))only[ZA,zp,zo,zm,zk,zj,zi,zh,ze,ziq,zte,ztd,gp,gq,ex,ey,lx,a1,a2,d1,d2,ee])
 exact⟨hlt,rfl,trivial⟩
theorem zbqe {p q:Nat} {x y:SyV} {s:Sy} (gp:H.get p=some (.cells true (x.cs s))) (gq:H.get q=some (.cells true (y.cs s))) (hx:SysAt H x s) (hy:SysAt H y s) (Q:Out→Heap→Prop) (hQ:Q (.brk 6 [ptr p 0,ptr q 0]) H):wp (zbg zby zh2 [ptr p 0,ptr q 0,i64 0]) Q H:=by
 have hsm:=hx.small
 have lx:=hx.wins.len
 have ex:(x.cs s)[4]? = some x.wv:=rfl
 have ey:(y.cs s)[4]? = some y.wv:=rfl
 refine zb2 s.wins.length (by omega) (fun j vs H'=>vs=[ptr p 0,ptr q 0,i64 j]∧H'=H) ⟨rfl,rfl⟩ ?_
 rintro j vs H1 hj ⟨rfl,rfl⟩
 by_cases hlt:j < s.wins.length
 case neg =>
  have:j=s.wins.length:=by omega
  subst this
  (try simp(maxSteps:=1000000)(disch:=first|omega|(simp only[Z3];omega)|(simp;done)|assumption|decide|(apply not_not_intro;assumption))only[ZB,zh2,gp,ex,lx])
  exact hQ
 have a1:=hx.wins.addr' (n:=3) rfl (k := .i64) (i:=j) (by omega) (by omega)
 have a2:=hy.wins.addr' (n:=3) rfl (k := .i64) (i:=j) (by omega) (by omega)
 rw[Int.toNat_natCast] at a1 a2
 have d1:=fun Q=>hx.wins.ldn' (Q:=Q) (n:=3) rfl hlt default
 have d2:=fun Q=>hy.wins.ldn' (Q:=Q) (n:=3) rfl hlt default
 have ee:=zbyv (s.wins.getD j default)
 (try simp(maxSteps:=1000000)(disch:=first|omega|(simp only[Z3];omega)|(simp;done)|assumption|decide|(apply not_not_intro;assumption))only[ZA,zp,zo,zm,zk,zj,zi,zh,ze,zh2,zr5,ztf,gp,gq,ex,ey,lx,a1,a2,d1,d2,ee])
 exact⟨hlt,rfl,trivial⟩
theorem z89 {v w:V} {l:List Bd} (hv:Sl H v l) (hw:Sl H w l) (hl:l.length≤1000000000) (Q:V→Heap→Prop) (hQ:Q (.bool true) H):wp (zh1 [v,w]) Q H:=by
 show wp (zp4 v w) Q H
 have lv:=hv.len
 have lw:=hw.len
 have e0:decide ((l.length:Int)≠(l.length:Int))=false:=by simp
 (try simp(maxSteps:=1000000)(disch:=first|omega|(simp only[Z3];omega)|(simp;done)|assumption|decide|(apply not_not_intro;assumption))only[ZB,zp4,lv,lw,e0,zvr])
 refine zb2 l.length (by omega) (fun j vs H'=>vs=[v,w,i64 j]∧H'=H) ⟨rfl,rfl⟩ ?_
 rintro j vs H1 hj ⟨rfl,rfl⟩
 by_cases hlt:j < l.length
 case neg =>
  have:j=l.length:=by omega
  subst this
  (try simp(maxSteps:=1000000)(disch:=first|omega|(simp only[Z3];omega)|(simp;done)|assumption|decide|(apply not_not_intro;assumption))only[ZB,zoa,lv,zvq])
  exact hQ
 have a1:=hv.addr' (n:=2) rfl (k := .i64) (i:=j) (by omega) (by omega)
 have a2:=hw.addr' (n:=2) rfl (k := .i64) (i:=j) (by omega) (by omega)
 rw[Int.toNat_natCast] at a1 a2
 have d1:=fun Q=>hv.ldn' (Q:=Q) (n:=2) rfl hlt default
 have d2:=fun Q=>hw.ldn' (Q:=Q) (n:=2) rfl hlt default
 have ee:=zb0i (l.getD j default)
 (try simp(maxSteps:=1000000)(disch:=first|omega|(simp only[Z3];omega)|(simp;done)|assumption|decide|(apply not_not_intro;assumption))only[ZA,zp,zo,zm,zk,zj,zi,zh,ze,zoa,zvp,zvo,lv,a1,a2,d1,d2,ee])
 exact⟨hlt,rfl,trivial⟩
theorem zbs6 {p q:Nat} {x y:SyV} {s:Sy} (gp:H.get p=some (.cells true (x.cs s))) (gq:H.get q=some (.cells true (y.cs s))) (hx:SysAt H x s) (hy:SysAt H y s) (hb:∀ u∈s.uns,u.ins.length≤1000000000∧u.outs.length≤1000000000) (Q:Out→Heap→Prop) (hQ:Q (.brk 8 []) H):wp (zbg zby zh3 [ptr p 0,ptr q 0,i64 0]) Q H:=by
 have hsm:=hx.small
 obtain⟨ul,hu,hul⟩:=hx.uns
 obtain⟨wl,hw,hwl⟩:=hy.uns
 have lx:=hu.out.len
 have nu:s.uns.length=ul.length:=by rw[← hul,List.length_map]
 have nw:s.uns.length=wl.length:=by rw[← hwl,List.length_map]
 have ex:(x.cs s)[5]? = some x.uv:=rfl
 have ey:(y.cs s)[5]? = some y.uv:=rfl
 refine zb2 ul.length (by omega) (fun j vs H'=>vs=[ptr p 0,ptr q 0,i64 j]∧H'=H) ⟨rfl,rfl⟩ ?_
 rintro j vs H1 hj ⟨rfl,rfl⟩
 by_cases hlt:j < ul.length
 case neg =>
  have:j=ul.length:=by omega
  subst this
  (try simp(maxSteps:=1000000)(disch:=first|omega|(simp only[Z3];omega)|(simp;done)|assumption|decide|(apply not_not_intro;assumption))only[ZB,zh3,gp,ex,lx])
  exact hQ
 have hlt2:j < wl.length:=by omega
 have e1:(ul.getD j default).p=s.uns.getD j default:=by rw[← hul];exact (zt8 _ _ _ _ _ hlt).symm
 have e2:(wl.getD j default).p=s.uns.getD j default:=by rw[← hwl];exact (zt8 _ _ _ _ _ hlt2).symm
 have hbj:=hb _ (zb4 (d:=default) (show j < s.uns.length by omega))
 have s1:=hu.at hlt
 have s2:=hw.at hlt2
 have i1:(ul.getD j default).ins.xs=(s.uns.getD j default).ins:=congrArg PUn.ins e1
 have i2:(wl.getD j default).ins.xs=(s.uns.getD j default).ins:=congrArg PUn.ins e2
 have o1:(ul.getD j default).outs.xs=(s.uns.getD j default).outs:=congrArg PUn.outs e1
 have o2:(wl.getD j default).outs.xs=(s.uns.getD j default).outs:=congrArg PUn.outs e2
 rw[i1,o1] at s1
 rw[i2,o2] at s2
 have a1:=hu.out.addr' (n:=2) rfl (k := .i64) (i:=j) (by omega) (by omega)
 have a2:=hw.out.addr' (n:=2) rfl (k := .i64) (i:=j) (by omega) (by omega)
 rw[Int.toNat_natCast] at a1 a2
 have c1:=hu.out.cell' (n:=2) rfl (off:=0) hlt (by omega) default
 have c2:=hu.out.cell' (n:=2) rfl (off:=1) hlt (by omega) default
 have c3:=hw.out.cell' (n:=2) rfl (off:=0) hlt2 (by omega) default
 have c4:=hw.out.cell' (n:=2) rfl (off:=1) hlt2 (by omega) default
 rw[zcm] at c1 c2 c3 c4
 rw[Nat.add_zero] at c1 c3
 rw[show (Flat.enc (ul.getD j default))[0]? = some (ul.getD j default).ins.v from rfl] at c1
 rw[show (Flat.enc (ul.getD j default))[1]? = some (ul.getD j default).outs.v from rfl] at c2
 rw[show (Flat.enc (wl.getD j default))[0]? = some (wl.getD j default).ins.v from rfl] at c3
 rw[show (Flat.enc (wl.getD j default))[1]? = some (wl.getD j default).outs.v from rfl] at c4
 (try simp(maxSteps:=1000000)(disch:=first|omega|(simp only[Z3];omega)|(simp;done)|assumption|decide|(apply not_not_intro;assumption))only[ZB,zh3,zr7,gp,gq,ex,ey,lx,a1,a2,c1,c3])
 refine z89 s1.1 s2.1 hbj.1 _ ?_
 (try simp(maxSteps:=1000000)(disch:=first|omega|(simp only[Z3];omega)|(simp;done)|assumption|decide|(apply not_not_intro;assumption))only[ZB,gp,gq,ex,ey,a1,a2,c2,c4])
 refine z89 s1.2 s2.2 hbj.2 _ ?_
 (try simp(maxSteps:=1000000)(disch:=first|omega|(simp only[Z3];omega)|(simp;done)|assumption|decide|(apply not_not_intro;assumption))only[ZB,zr6])
 exact⟨hlt,rfl,trivial⟩
theorem zbfs {x y:SyV} {s:Sy} (hx:SysAt H x s) (hy:SysAt H y s) (hb:∀ u∈s.uns,u.ins.length≤1000000000∧u.outs.length≤1000000000) (Q:V→Heap→Prop) (hQ:∀ H',Keeps [] H H'→Q (.bool true) H'):wp (zjo [.agg (x.cs s).toArray,.agg (y.cs s).toArray]) Q H:=by
 show wp (zob (.agg (x.cs s).toArray) (.agg (y.cs s).toArray)) Q H
 have ox:=hx.one
 have oy:=hy.one
 obtain⟨ul,hu,hul⟩:=hx.uns
 obtain⟨wl,hw,hwl⟩:=hy.uns
 have lu:=hu.out.len
 have lw:=hw.out.len
 have nu:s.uns.length=ul.length:=by rw[← hul,List.length_map]
 have nw:s.uns.length=wl.length:=by rw[← hwl,List.length_map]
 rw[← nu] at lu
 rw[← nw] at lw
 have q1:=hx.pts.len
 have q2:=hx.grs.len
 have q3:=hx.prs.len
 have q4:=hx.wins.len
 have r1:=hy.pts.len
 have r2:=hy.grs.len
 have r3:=hy.prs.len
 have r4:=hy.wins.len
 unfold zob
 rw[z6,z6]
 refine (zcg ox).mpr ?_
 have k1:Keeps [] H (H.push (some (.cells true (x.cs s)))):=Keeps.push _ _ _
 have gx:(H.push (some (.cells true (x.cs s)))).get H.next=some (.cells true (x.cs s)):=Heap.get_push_self _ _
 generalize H.next=p at *
 generalize H.push (some (.cells true (x.cs s)))=H1 at *
 rw[z6]
 refine (zcg oy).mpr ?_
 have k2:Keeps [] H1 (H1.push (some (.cells true (y.cs s)))):=Keeps.push _ _ _
 have gy:(H1.push (some (.cells true (y.cs s)))).get H1.next=some (.cells true (y.cs s)):=Heap.get_push_self _ _
 generalize H1.next=q at *
 generalize H1.push (some (.cells true (y.cs s)))=H2 at *
 have gx2:=k2.get gx (by simp)
 have k02:=k1.trans k2 (fun _ _ h=>h)
 have ex:x.cs s=[x.pv,x.gv,x.qv,i64 s.frame,x.wv,x.uv,i64 s.millis]:=rfl
 have ey:y.cs s=[y.pv,y.gv,y.qv,i64 s.frame,y.wv,y.uv,i64 s.millis]:=rfl
 have en:∀ n:Int,decide (n≠n)=false:=fun n=>by simp
 (try simp(maxSteps:=1000000)(disch:=first|omega|(simp only[Z3];omega)|(simp;done)|assumption|decide|(apply not_not_intro;assumption))only[ZB,gx2,gy,ex,ey,q1,q2,q3,q4,r1,r2,r3,r4,lu,lw,en,zsd])
 have hx2:=hx.keep0 k02
 have hy2:=hy.keep0 k02
 refine zbs3 gx2 gy hx2 hy2 _ ?_
 (try simp(maxSteps:=1000000)(disch:=first|omega|(simp only[Z3];omega)|(simp;done)|assumption|decide|(apply not_not_intro;assumption))only[ZB,zsc])
 refine zbs4 gx2 gy hx2 hy2 _ ?_
 (try simp(maxSteps:=1000000)(disch:=first|omega|(simp only[Z3];omega)|(simp;done)|assumption|decide|(apply not_not_intro;assumption))only[ZB,zsb])
 refine zbs5 gx2 gy hx2 hy2 _ ?_
 (try simp(maxSteps:=1000000)(disch:=first|omega|(simp only[Z3];omega)|(simp;done)|assumption|decide|(apply not_not_intro;assumption))only[ZB,zsa])
 refine zbqe gx2 gy hx2 hy2 _ ?_
 (try simp(maxSteps:=1000000)(disch:=first|omega|(simp only[Z3];omega)|(simp;done)|assumption|decide|(apply not_not_intro;assumption))only[ZB,zr9])
 refine zbs6 gx2 gy hx2 hy2 hb _ ?_
 (try simp(maxSteps:=1000000)(disch:=first|omega|(simp only[Z3];omega)|(simp;done)|assumption|decide|(apply not_not_intro;assumption))only[ZB,zr8])
 exact hQ _ k02
end Go.AM.Cap
