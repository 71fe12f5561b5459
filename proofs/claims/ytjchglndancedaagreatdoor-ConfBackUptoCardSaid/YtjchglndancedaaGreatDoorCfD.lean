import Derived.Test.YtjchglndancedaaGreatDoorCfC
import Derived.Test.YtjchglndancedaaGreatDoorAmIn
set_option linter.all false
/- conf: binds of units; exec.Check -/
set_option maxHeartbeats 8000000
namespace Go.AM.Cap
open Go.AM Go.Proofs
theorem zz9 {α:Type} [Flat α] {H:Heap} {v:V} {l:List α} (h:Sl H v l):vEq.vEq1 v v=true:=by
 rcases h with⟨rfl,_⟩ | ⟨b,o,u,c,rfl,_⟩ <;> simp[vEq.vEq1]
theorem zbdz:∀ l:List V,(∀ v∈l,vEq.vEq1 v v=true)→vEq.vEqs l l=true
 | [],_=>rfl
 | v :: l,h=>by
  have h1:=h v (by simp)
  have h2:=zbdz l (fun w hw=>h w (by simp[hw]))
  simp[vEq.vEqs,h1,h2]
theorem zbn5 {H:Heap} {p n:Nat} {cs:List V} {rw_:Bool} (h:H.get p=some (.cells rw_ cs)) (hn:cs.length=n) (hv:∀ v∈cs,vEq.vEq1 v v=true):chk (ldn n (ptr p 0)) H (.agg cs.toArray)=true:=by
 have:wp (ldn n (ptr p 0)) (fun r _=>r = .agg cs.toArray) H:=(zbc h hn).mpr rfl
 obtain⟨r,H',h1,h2⟩:=this
 unfold chk
 rw[h1,h2]
 show vEq.vEqs cs cs=true
 exact zbdz _ hv
theorem SysAt.same {H:Heap} {x:SyV} {s:Sy} (h:SysAt H x s):∀ v∈x.cs s,vEq.vEq1 v v=true:=by
 obtain⟨l,h1,_⟩:=h.uns
 intro v hv
 simp only[SyV.cs,List.mem_cons,List.not_mem_nil,or_false] at hv
 rcases hv with rfl | rfl | rfl | rfl | rfl | rfl | rfl
 ·exact zz9 h.pts
 ·exact zz9 h.grs
 ·exact zz9 h.prs
 ·simp[vEq.vEq1]
 ·exact zz9 h.wins
 ·exact zz9 h1.out
 ·simp[vEq.vEq1]
def bdV (b:Bd):V:=if b.kind=1 then .iface zo7 (i64 b.n) else if b.kind=2 then .iface zre (i64 b.n) else .iface zuu (.agg #[])
theorem zbn6 (b:Bd):(bdV b).isOne=true:=by unfold bdV;(repeat' split) <;> rfl
theorem zbd0 {H:Heap} (b:Bd) (Q:V→Heap→Prop) (hQ:∀ H',Keeps [] H H'→Q (bdV b) H'):wp (zeo [.agg (Flat.enc b).toArray]) Q H:=by
 show wp (zpm (.agg (Flat.enc b).toArray)) Q H
 have q:=hQ _ (Keeps.push _ _ (some (.cells true (Flat.enc b))))
 unfold bdV at q
 by_cases h1:b.kind=1
 ·rw[if_pos h1] at q
  (try simp(maxSteps:=1000000)(disch:=first|omega|(simp only[Z3];omega)|(simp;done)|assumption|decide|(apply not_not_intro;assumption))only[ZB,zpm,zz8])
  exact q
 ·rw[if_neg h1] at q
  by_cases h2:b.kind=2
  ·rw[if_pos h2] at q
   (try simp(maxSteps:=1000000)(disch:=first|omega|(simp only[Z3];omega)|(simp;done)|assumption|decide|(apply not_not_intro;assumption))only[ZB,zpm,zz8])
   exact q
  ·rw[if_neg h2] at q
   have e:build ([]:List V) []=some (.agg #[]):=rfl
   (try simp(maxSteps:=1000000)(disch:=first|omega|(simp only[Z3];omega)|(simp;done)|assumption|decide|(apply not_not_intro;assumption))only[ZB,zpm,zz8,z42,e])
   exact q
theorem zbmz (x:V):invG Tryz.prog (.iface zo7 x) "capstan/exec.may" = some (zhb,x):=by kernel_rfl
theorem zbp1 (x:V):invG Tryz.prog (.iface zre x) "capstan/exec.may" = some (zhz,x):=by kernel_rfl
theorem zbm0 (x:V):invG Tryz.prog (.iface zuu x) "capstan/exec.may" = some (zhd,x):=by kernel_rfl
theorem z8x {P:Program} {S:zu} {v x:V} {name:String} {g:Nat} {args:List V} (h:invG P v name=some (g,x)):invM P S v name args=S g (x :: args):=by
 unfold invM;rw[h];rfl
theorem zbd1 {g:Nat} {F:List V→M V} {l:List (Nat × (List V→M V))} {S:zu}:ovr ((g,F) :: l) S g=F:=by
 simp only[ovr]
 cases h:Nat.beq g g with
 | true=>rfl
 | false=>rw[Nat.beq_refl] at h;cases h
theorem zbid {f g:Nat} {F:List V→M V} {l:List (Nat × (List V→M V))} {S:zu} (h:Nat.beq f g=false):ovr ((g,F) :: l) S f=ovr l S f:=by
 simp only[ovr,h];rfl
theorem zbkm {H:Heap} {x:SyV} {s:Sy} (h:SysAt H x s) (n unit:Int) (out:Bool) (Q:V→Heap→Prop) (hQ:∀ H',Keeps [] H H'→Q (.bool (zbkl s unit n out)) H'):wp (zj2 [i64 n,.agg (x.cs s).toArray,i64 unit,.bool out]) Q H:=by
 show wp (zsn (i64 n) (.agg (x.cs s).toArray) (i64 unit) (.bool out)) Q H
 have ho:=h.one
 unfold SyV.cs at ho ⊢
 have hlen:=h.prs.len
 have k1:Keeps [] H (H.push (some (.cells true [x.pv,x.gv,x.qv,i64 s.frame,x.wv,x.uv,i64 s.millis]))):=Keeps.push _ _ _
 have g1:(H.push (some (.cells true [x.pv,x.gv,x.qv,i64 s.frame,x.wv,x.uv,i64 s.millis]))).get H.next=some (.cells true [x.pv,x.gv,x.qv,i64 s.frame,x.wv,x.uv,i64 s.millis]):=Heap.get_push_self _ _
 have hp1:=h.prs.keep0 k1
 have q:=hQ _ k1
 unfold zsn
 rw[z6,z6]
 refine (zcg ho).mpr ?_
 generalize H.push (some (.cells true [x.pv,x.gv,x.qv,i64 s.frame,x.wv,x.uv,i64 s.millis]))=H1 at *
 by_cases h1:n < 0∨n≥s.prs.length
 ·rw[zbkl,if_pos h1] at q
  by_cases h2:n < 0
  ·(try simp(maxSteps:=1000000)(disch:=first|omega|(simp only[Z3];omega)|(simp;done)|assumption|decide|(apply not_not_intro;assumption))only[ZB,g1])
   exact q
  ·(try simp(maxSteps:=1000000)(disch:=first|omega|(simp only[Z3];omega)|(simp;done)|assumption|decide|(apply not_not_intro;assumption))only[ZB,g1,hlen])
   exact q
 ·rw[zbkl,if_neg h1] at q
  have a1:=hp1.addr' (n:=5) rfl (k := .i64) (i:=n) (by omega) (by omega)
  have hlt:n.toNat < s.prs.length:=by omega
  have c1:=hp1.cell' (n:=5) rfl (off:=1) hlt (by omega) default
  have c2:=hp1.cell' (n:=5) rfl (off:=2) hlt (by omega) default
  rw[zcm] at c1 c2
  have e1:(Flat.enc (s.prs.getD n.toNat default))[1]? = some (i64 (s.prs.getD n.toNat default).src):=rfl
  have e2:(Flat.enc (s.prs.getD n.toNat default))[2]? = some (i64 (s.prs.getD n.toNat default).dst):=rfl
  rw[e1] at c1
  rw[e2] at c2
  cases out
  ·(try simp(maxSteps:=1000000)(disch:=first|omega|(simp only[Z3];omega)|(simp;done)|assumption|decide|(apply not_not_intro;assumption))only[ZB,g1,hlen,zq4,zq3,a1,c1,c2])
   simpa using q
  ·(try simp(maxSteps:=1000000)(disch:=first|omega|(simp only[Z3];omega)|(simp;done)|assumption|decide|(apply not_not_intro;assumption))only[ZB,g1,hlen,zq4,zq3,a1,c1,c2])
   simpa using q
theorem zbie {H:Heap} {x:SyV} {s:Sy} (h:SysAt H x s) (unit:Int) (out:Bool) (Q:V→Heap→Prop) (hQ:∀ H',Keeps [] H H'→Q (.bool false) H'):wp (zi2 [.agg #[],.agg (x.cs s).toArray,i64 unit,.bool out]) Q H:=by
 show wp (zq5 (.agg #[]) (.agg (x.cs s).toArray) (i64 unit) (.bool out)) Q H
 have ho:=h.one
 have e:∀ Q,wp (zeu (.agg #[])) Q H↔Q (ptr H.next 0) (H.push (some (.cells true []))):=fun Q=>zcg (vs:=[]) rfl
 unfold zq5
 rw[z6,z6,e]
 rw[z6]
 refine (zcg ho).mpr ?_
 (try simp(maxSteps:=1000000)(disch:=first|omega|(simp only[Z3];omega)|(simp;done)|assumption|decide|(apply not_not_intro;assumption))only[ZB])
 exact hQ _ (zbz (Keeps.push _ _ _))
theorem zbp2 {H:Heap} {v:V} {l:List Bd} (h:Sl H v l) (hl:l.length≤1000000000) (b:Bd) (Q:V→Heap→Prop) (hQ:∀ H',Keeps [] H H'→Q (i64 (zj3 (zg7 (fun x=>decide (b=x)) l))) H'):wp (zcu [v,.agg (Flat.enc b).toArray]) Q H:=by
 show wp (zd4 v (.agg (Flat.enc b).toArray)) Q H
 have hlen:=h.len
 have k1:Keeps [] H (H.push (some (.cells true (Flat.enc b)))):=Keeps.push _ _ _
 have g1:(H.push (some (.cells true (Flat.enc b)))).get H.next=some (.cells true (Flat.enc b)):=Heap.get_push_self _ _
 unfold zd4
 rw[z6,z6]
 refine (zcg (Flat.one b)).mpr ?_
 generalize H.push (some (.cells true (Flat.enc b)))=H1 at *
 have d0:=fun Q=>zbc (n:=2) (Q:=Q) g1 rfl
 (try simp(maxSteps:=1000000)(disch:=first|omega|(simp only[Z3];omega)|(simp;done)|assumption|decide|(apply not_not_intro;assumption))only[ZB,hlen])
 refine zb2 l.length (by omega) (fun j vs H'=>vs=[v,ptr H.next 0,i64 l.length,i64 j]∧H'=H1∧(∀ i,i < j→decide (b=l.getD i default)=false)) ⟨rfl,rfl,by omega⟩ ?_
 rintro j vs H2 hj ⟨rfl,rfl,hn⟩
 by_cases hlt:j < l.length
 case neg =>
  have:j=l.length:=by omega
  subst this
  have e:zj3 (zg7 (fun x=>decide (b=x)) l) = -1:=by rw[z8w hn];rfl
  rw[e] at hQ
  (try simp(maxSteps:=1000000)(disch:=first|omega|(simp only[Z3];omega)|(simp;done)|assumption|decide|(apply not_not_intro;assumption))only[ZB,zcq,zg1])
  exact hQ _ k1
 have h2:=h.keep0 k1
 have a1:=h2.addr' (n:=2) rfl (k := .i64) (i:=j) (by omega) (by omega)
 rw[Int.toNat_natCast] at a1
 have d1:=fun Q=>h2.ldn' (Q:=Q) (n:=2) rfl hlt default
 have e2:zcz false (zho [.i,.i] (.agg (Flat.enc b).toArray) (.agg (Flat.enc (l.getD j default)).toArray))=some (.bool (decide (b=l.getD j default))):=by
  generalize l.getD j default=y
  obtain⟨b1,b2⟩:=b
  obtain⟨y1,y2⟩:=y
  simp only[zz8,zho,zm8,eqK,if_true,zbbx,zcz,Bd.mk.injEq]
  by_cases q1:b1=y1 <;> by_cases q2:b2=y2 <;> simp[q1,q2]
 by_cases hq:b=l.getD j default
 ·have e:zj3 (zg7 (fun x=>decide (b=x)) l)=j:=by rw[zt6 (d:=default) hlt (decide_eq_true hq) hn];rfl
  rw[e] at hQ
  rw[decide_eq_true hq] at e2
  (try simp(maxSteps:=1000000)(disch:=first|omega|(simp only[Z3];omega)|(simp;done)|assumption|decide|(apply not_not_intro;assumption))only[ZA,zp,zo,zm,zk,zj,zi,zh,ze,zcq,zdz,a1,d0,d1,e2])
  exact hQ _ k1
 ·rw[decide_eq_false hq] at e2
  (try simp(maxSteps:=1000000)(disch:=first|omega|(simp only[Z3];omega)|(simp;done)|assumption|decide|(apply not_not_intro;assumption))only[ZA,zp,zo,zm,zk,zj,zi,zh,ze,zcq,zdz,a1,d0,d1,e2,zg0])
  refine⟨hlt,rfl,fun i hi=>?_⟩
  rcases Nat.lt_or_eq_of_le (Nat.lt_succ_iff.1 hi) with q | rfl
  ·exact hn i q
  ·exact decide_eq_false hq
theorem zbif {H:Heap} {v:V} {l:List Bd} (h:Sl H v l) (hl:l.length≤1000000000) (b:Bd) (Q:V→Heap→Prop) (hQ:∀ H',Keeps [] H H'→Q (.bool (decide (b∈l))) H'):wp (zbk [v,.agg (Flat.enc b).toArray]) Q H:=by
 show wp (zdq v (.agg (Flat.enc b).toArray)) Q H
 have k1:Keeps [] H (H.push (some (.cells true (Flat.enc b)))):=Keeps.push _ _ _
 have g1:(H.push (some (.cells true (Flat.enc b)))).get H.next=some (.cells true (Flat.enc b)):=Heap.get_push_self _ _
 unfold zdq
 rw[z6,z6]
 refine (zcg (Flat.one b)).mpr ?_
 generalize H.push (some (.cells true (Flat.enc b)))=H1 at *
 have d0:=fun Q=>zbc (n:=2) (Q:=Q) g1 rfl
 rw[z6,d0,z6]
 refine zbp2 (h.keep0 k1) hl b _ fun H2 k2=>?_
 have q:=hQ _ (k1.trans k2 (by simp))
 cases hf:zg7 (fun x=>decide (b=x)) l with
 | none =>
  have:¬ b∈l:=fun q=>by have:=zyx.1 hf b q;simp at this
  rw[decide_eq_false this] at q
  have e:decide (((-1:Int))≥0)=false:=by decide
  (try simp(maxSteps:=1000000)(disch:=first|omega|(simp only[Z3];omega)|(simp;done)|assumption|decide|(apply not_not_intro;assumption))only[ZB,zj3,e])
  exact q
 | some i =>
  obtain⟨hi,hp,_⟩:=z35 (d:=default) hf
  have:b∈l:=by
   have e:b=l.getD i default:=by simpa using hp
   rw[e];exact zb4 hi
  rw[decide_eq_true this] at q
  have e:decide ((i:Int)≥0)=true:=by simp
  (try simp(maxSteps:=1000000)(disch:=first|omega|(simp only[Z3];omega)|(simp;done)|assumption|decide|(apply not_not_intro;assumption))only[ZB,zj3,e])
  exact q
theorem zbn7 {α:Type} [Flat α] {H:Heap} {v:V} {l:List α} {n:Nat} (hs:Flat.size α=n) (h:Sl H v l) {j:Nat} (hj:j < l.length):∃ w,zhs n v none (some (i64 (j:Int)))=some w∧Sl H w (l.take j):=by
 subst hs
 rcases h with⟨rfl,rfl⟩ | ⟨b,o,u,c,rfl,hc,hb,hl,hu⟩
 ·simp at hj
 ·have hj':(l.take j).length=j:=by simp;omega
  refine⟨slc b o u j c,?_,.inr ⟨b,o,u,c,by rw[hj'],by omega,hb,?_,?_⟩⟩
  ·have hb0:zdw 0 j none=some 0:=rfl
   have e1:zdw l.length c (some (i64 (j:Int)))=some j:=by simp[zdw];omega
   simp only[zhs,e1,hb0]
   have hu2:u=Flat.size α∨u=0:=hu.symm
   rw[if_pos hu2]
   simp[zro]
  ·by_cases h0:j=0
   ·left;subst h0;rfl
   ·right
    rcases hl with rfl | ⟨rw_,cs,hg,q1,q2⟩
    ·simp at hj
    ·refine⟨rw_,cs,hg,?_,?_⟩
     ·rw[hj']
      have:j * Flat.size α≤l.length * Flat.size α:=Nat.mul_le_mul_right _ (by omega)
      omega
     ·rw[hj',← z9t,← q2,List.take_take,Nat.min_eq_left (Nat.mul_le_mul_right _ (by omega))]
  ·exact hu
end Go.AM.Cap
