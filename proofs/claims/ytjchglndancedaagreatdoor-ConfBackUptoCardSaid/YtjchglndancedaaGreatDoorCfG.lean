import Derived.Test.YtjchglndancedaaGreatDoorCfF
import Derived.Test.YtjchglndancedaaGreatDoorAmIn
set_option linter.all false
/- conf: ports.New in short, the ends of units, part.New -/
set_option maxHeartbeats 8000000
namespace Go.AM.Cap
open Go.AM Go.Proofs
theorem zbd3:∀ {ls:List Port} {i:Nat},(chkL i ls).2=0→∀ q∈ls,zvt q=0
 | [],_,_,q,hq=>by cases hq
 | p :: ps,i,h,q,hq=>by
  rw[chkL] at h
  by_cases hw:zvt p≠0
  ·rw[if_pos hw] at h;exact absurd h hw
  ·rw[if_neg hw] at h
   rcases List.mem_cons.1 hq with rfl | hq
   ·exact Decidable.not_not.1 hw
   ·exact zbd3 h q hq
theorem zyy {ls:List Port} (h:(chkP ls).2=0):ls.length≤16∧∀ q∈ls,zvt q=0:=by
 unfold chkP at h
 by_cases h16:ls.length > 16
 ·rw[if_pos h16] at h;cases h
 ·rw[if_neg h16] at h
  exact⟨by omega,zbd3 h⟩
theorem zbih {H:Heap} {lv:V} {ls:List Port} (hl:Sl H lv ls) (he:(chkP ls).2=0) (Q:V→Heap→Prop) (hQ:∀ p H',Keeps [] H H'→Q (.tuple #[ptr p 0,i64 0]) H'):wp (zwp [lv]) Q H:=by
 show wp (z2q lv) Q H
 simp only[z2q,z6]
 refine z28 H lv ls hl _ fun H1 k1=>?_
 have hsm:=(zyy he).1
 have hl1:=hl.keep0 k1
 (try simp(maxSteps:=1000000)(disch:=first|omega|(simp only[Z3];omega)|(simp;done)|assumption|decide|(apply not_not_intro;assumption))only[ZB,z8c,hl1.len,zrr])
 have kp:Keeps [] H1 (H1.push none):=Keeps.push _ _ _
 refine zq8 (α:=Port) (n:=5) rfl rfl rfl (hl1.keep0 kp) (by omega) (by omega) _ fun w H2 hw k2 fw=>?_
 have hb2:H2.get H1.next=none:=by rw[k2.same H1.next (by simp) (by simp)];exact Heap.get_push_self _ _
 have hb1:(H1.push none).get H1.next=none:=Heap.get_push_self _ _
 have hn2:=k2.next
 simp only[Heap.next_push'] at hn2 fw
 (try simp(maxSteps:=1000000)(disch:=first|omega|(simp only[Z3];omega)|(simp;done)|assumption|decide|(apply not_not_intro;assumption))only[ZB,zrv (bs:=[]) hb1 (by simp),zrv (bs:=[]) hb2 (by omega),Bool.and_true])
 refine z7z (n:=ls.length) (c:=ls.length) hb2 (by omega) (by decide) (Nat.le_refl _) (by omega) (by omega) ?_
 have hwo:=hw.isOne
 (try simp(maxSteps:=1000000)(disch:=first|omega|(simp only[Z3];omega)|(simp;done)|assumption|decide|(apply not_not_intro;assumption))only[ZB,hwo])
 refine (zcg (by simp[hwo])).mpr ?_
 (try simp(maxSteps:=1000000)(disch:=first|omega|(simp only[Z3];omega)|(simp;done)|assumption|decide|(apply not_not_intro;assumption))only[ZB])
 refine hQ _ _ (zbz ?_)
 have hk:Keeps [H1.next] H2 (H2.set H1.next (some (.cells true (rep ls.length [Value.slice none 0 0,Value.slice none 0 0,Value.int .i64 0,Value.int .i64 0])))):=Keeps.set (by simp)
 have hne:=k1.next
 exact ((k1.trans kp (fun _ _ h=>h)).trans k2 (fun _ _ h=>h)).trans hk (fun b hb hm=>by simp at hm;omega)
def z8y (s:Sy) (b:Bd):Int:=if b.kind=1 then (s.pts.getD b.n.toNat default).typ else if b.kind=2 then (s.prs.getD b.n.toNat default).typ else 0
def inB (s:Sy) (b:Bd):Prop:=(b.kind=1∧0≤b.n∧b.n < s.pts.length)∨(b.kind=2∧0≤b.n∧b.n < s.prs.length)
theorem zbm5 (x:V):invG Tryz.prog (.iface zo7 x) "capstan/exec.kind" = some (zgj,x):=by kernel_rfl
theorem zbp5 (x:V):invG Tryz.prog (.iface zre x) "capstan/exec.kind" = some (zhc,x):=by kernel_rfl
theorem zbp6 {H:Heap} {x:SyV} {s:Sy} {S:zu} (h:SysAt H x s) (b:Bd) (hb:inB s b) (Q:V→Heap→Prop) (hQ:∀ H',Keeps [] H H'→Q (i64 (z8y s b)) H') :
  wp (invM Tryz.prog (ovr [(zgj,zko),(zhc,zmi),(zik,zkp),(zha,zeo)] S) (bdV b) "capstan/exec.kind" [.agg (x.cs s).toArray]) Q H:=by
 have ho:=h.one
 unfold SyV.cs at ho ⊢
 have k1:Keeps [] H (H.push (some (.cells true [x.pv,x.gv,x.qv,i64 s.frame,x.wv,x.uv,i64 s.millis]))):=Keeps.push _ _ _
 have g1:(H.push (some (.cells true [x.pv,x.gv,x.qv,i64 s.frame,x.wv,x.uv,i64 s.millis]))).get H.next=some (.cells true [x.pv,x.gv,x.qv,i64 s.frame,x.wv,x.uv,i64 s.millis]):=Heap.get_push_self _ _
 have q:=hQ _ k1
 unfold z8y at q
 unfold bdV
 rcases hb with⟨h1,h2,h3⟩ | ⟨h1,h2,h3⟩
 ·rw[if_pos h1,z8x (zbm5 _),zbd1]
  rw[if_pos h1] at q
  show wp (zpo (i64 b.n) _) Q H
  unfold zpo
  rw[z6,z6]
  refine (zcg ho).mpr ?_
  have hp:=h.pts.keep0 k1
  generalize H.push (some (.cells true [x.pv,x.gv,x.qv,i64 s.frame,x.wv,x.uv,i64 s.millis]))=H1 at *
  have a1:=hp.addr' (n:=2) rfl (k := .i64) (i:=b.n) h2 h3
  have c1:=hp.cell' (n:=2) rfl (off:=0) (i:=b.n.toNat) (by omega) (by omega) default
  rw[zcm] at c1
  have e1:(Flat.enc (s.pts.getD b.n.toNat default))[0]? = some (i64 (s.pts.getD b.n.toNat default).typ):=rfl
  rw[e1] at c1
  rw[Nat.add_zero] at c1
  (try simp(maxSteps:=1000000)(disch:=first|omega|(simp only[Z3];omega)|(simp;done)|assumption|decide|(apply not_not_intro;assumption))only[ZB,g1,a1,c1])
  exact q
 ·rw[if_neg (by omega),if_pos h1,z8x (zbp5 _),zbid rfl,zbd1]
  rw[if_neg (by omega),if_pos h1] at q
  show wp (zq6 (i64 b.n) _) Q H
  unfold zq6
  rw[z6,z6]
  refine (zcg ho).mpr ?_
  have hp:=h.prs.keep0 k1
  generalize H.push (some (.cells true [x.pv,x.gv,x.qv,i64 s.frame,x.wv,x.uv,i64 s.millis]))=H1 at *
  have a1:=hp.addr' (n:=5) rfl (k := .i64) (i:=b.n) h2 h3
  have c1:=hp.cell' (n:=5) rfl (off:=3) (i:=b.n.toNat) (by omega) (by omega) default
  rw[zcm] at c1
  have e1:(Flat.enc (s.prs.getD b.n.toNat default))[3]? = some (i64 (s.prs.getD b.n.toNat default).typ):=rfl
  rw[e1] at c1
  (try simp(maxSteps:=1000000)(disch:=first|omega|(simp only[Z3];omega)|(simp;done)|assumption|decide|(apply not_not_intro;assumption))only[ZB,g1,a1,c1])
  exact q
structure Ed where
 b:Bd
instance:Flat Ed:=⟨1,fun e=>[bdV e.b],fun _=>rfl,fun e=>by simp[zbn6],by decide⟩
theorem zbn8 {H:Heap} {x:SyV} {s:Sy} {lv:V} {l:List Bd} (h:SysAt H x s) (hl:Sl H lv l) (hn:l.length≤32) (hb:∀ b∈l,inB s b) (Q:V→Heap→Prop)
  (hQ:∀ v w H',Hp H H' [own v (l.map Ed.mk),own w (l.map (z8y s))]→Q (.tuple #[v,w]) H'):wp (zr4 [.agg (x.cs s).toArray,lv]) Q H:=by
 show wp (z2r (.agg (x.cs s).toArray) lv) Q H
 have ho:=h.one
 have hsame:=h.same
 have hlen:=hl.len
 have h7:(x.cs s).length=7:=rfl
 have st:Hp H (H.push (some (.cells true (x.cs s)))) [cel H.next (x.cs s)]:=(Hp.start H).newc _
 unfold z2r
 rw[z6,z6]
 refine (zcg ho).mpr ?_
 generalize H.push (some (.cells true (x.cs s)))=H1 at *
 (try simp(maxSteps:=1000000)(disch:=first|omega|(simp only[Z3];omega)|(simp;done)|assumption|decide|(apply not_not_intro;assumption))only[ZB,hlen])
 refine zb2 l.length (by omega) (fun j vs H'=>∃ v w,vs=[ptr H.next 0,v,w,lv,i64 l.length,i64 j]∧Hp H H' [own v ((l.take j).map Ed.mk),own w ((l.take j).map (z8y s)),cel H.next (x.cs s)]) ⟨.slice none 0 0,.slice none 0 0,rfl,(st.nilo (α:=Int)).nilo (α:=Ed)⟩ ?_
 rintro j vs H2 hj ⟨v,w,rfl,s2⟩
 by_cases hlt:j < l.length
 case neg =>
  have:j=l.length:=by omega
  subst this
  rw[List.take_length] at s2
  (try simp(maxSteps:=1000000)(disch:=first|omega|(simp only[Z3];omega)|(simp;done)|assumption|decide|(apply not_not_intro;assumption))only[ZB,zz0,z8k])
  exact hQ v w H2 (s2.sub (by simp))
 have hts:l.take (j + 1)=l.take j ++ [l.getD j default]:=by
  rw[List.getD_eq_getElem?_getD,List.getElem?_eq_getElem hlt];exact List.take_succ_eq_append_getElem hlt
 have hbj:=hb _ (zb4 (d:=default) hlt)
 have hl2:=s2.ro hl
 have a1:=hl2.addr' (n:=2) rfl (k := .i64) (i:=j) (by omega) (by omega)
 rw[Int.toNat_natCast] at a1
 have d1:=fun Q=>hl2.ldn' (Q:=Q) (n:=2) rfl hlt default
 have htl:(l.take j).length=j:=by rw[List.length_take];omega
 rw[hts,List.map_append,List.map_append]
 simp only[List.map_cons,List.map_nil]
 generalize l.getD j default=b at *
 have g2:=s2.get (i:=2) rfl
 (try simp(maxSteps:=1000000)(disch:=first|omega|(simp only[Z3];omega)|(simp;done)|assumption|decide|(apply not_not_intro;assumption))only[ZA,zp,zo,zm,zk,zj,zi,zh,ze,zz0,z8j,a1,d1,zz8])
 have s3:Hp H (H2.push (some (.cells true [i64 b.kind,i64 b.n]))) [cel H2.next [i64 b.kind,i64 b.n],own v ((l.take j).map Ed.mk),own w ((l.take j).map (z8y s)),cel H.next (x.cs s)]:=s2.newc _
 generalize H2.push (some (.cells true [i64 b.kind,i64 b.n]))=H3 at *
 have d3:=fun Q=>zbc (n:=2) (Q:=Q) (s3.get (i:=0) rfl) rfl
 (try simp(maxSteps:=1000000)(disch:=first|omega|(simp only[Z3];omega)|(simp;done)|assumption|decide|(apply not_not_intro;assumption))only[ZA,zp,zo,zm,zk,zj,zi,zh,ze,d3])
 refine zbd0 b _ fun H4 k4=>?_
 have s4:=s3.keep0 k4
 have hone:=zbn6 b
 (try simp(maxSteps:=1000000)(disch:=first|omega|(simp only[Z3];omega)|(simp;done)|assumption|decide|(apply not_not_intro;assumption))only[ZA,zp,zo,zm,zk,zj,zi,zh])
 refine zzl (α:=Ed) (n:=1) (ys:=[⟨b⟩]) s4 (i:=1) rfl rfl (by decide) (by rw[ze hone (by decide),zb9];rfl) rfl (by simp[htl];omega) (by simp[htl];omega) fun v' H5 s5=>?_
 simp only[List.set_cons_succ,List.set_cons_zero] at s5
 have d5:=fun Q=>zbc (n:=2) (Q:=Q) (s5.get (i:=0) rfl) rfl
 have d5':=fun Q=>zbc (n:=7) (Q:=Q) (s5.get (i:=3) rfl) h7
 (try simp(maxSteps:=1000000)(disch:=first|omega|(simp only[Z3];omega)|(simp;done)|assumption|decide|(apply not_not_intro;assumption))only[ZA,zp,zo,zm,zk,zj,zi,zh,ze,d5,d5'])
 refine zbd0 b _ fun H6 k6=>?_
 have s6:=s5.keep0 k6
 have ck:chk (ldn 7 (ptr H.next 0)) H6 (.agg (x.cs s).toArray)=true:=zbn5 (s6.get (i:=3) rfl) h7 hsame
 (try simp(maxSteps:=1000000)(disch:=first|omega|(simp only[Z3];omega)|(simp;done)|assumption|decide|(apply not_not_intro;assumption))only[ZA,zp,zo,zm,zk,zj,zh,ze])
 refine zbp6 (h.keep0 s6.keeps) b hbj _ fun H7 k7=>?_
 have s7:=s6.keep0 k7
 (try simp(maxSteps:=1000000)(disch:=first|omega|(simp only[Z3];omega)|(simp;done)|assumption|decide|(apply not_not_intro;assumption))only[ZA,zp,zo,zm,zk,zj,zh,ze])
 refine zzl (α:=Int) (n:=1) (ys:=[z8y s b]) s7 (i:=2) rfl rfl (by decide) (by rw[ze rfl (by decide),zb9];rfl) rfl (by simp[htl];omega) (by simp[htl];omega) fun w' H8 s8=>?_
 simp only[List.set_cons_succ,List.set_cons_zero] at s8
 (try simp(maxSteps:=1000000)(disch:=first|omega|(simp only[Z3];omega)|(simp;done)|assumption|decide|(apply not_not_intro;assumption))only[ZB,ck,z8i])
 exact⟨hlt,v',w',rfl,s8.tail⟩
end Go.AM.Cap
