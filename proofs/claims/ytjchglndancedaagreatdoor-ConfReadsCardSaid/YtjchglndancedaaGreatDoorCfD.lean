import Derived.Test.YtjchglndancedaaGreatDoorCfB
import Derived.Test.YtjchglndancedaaGreatDoorAmOpenF
set_option linter.all false
/- conf: who may use what: binds of units -/
set_option maxHeartbeats 8000000
namespace Go.AM.Cap
open Go.AM Go.Proofs
def ixL (n:Nat) (S:zv) (vs:List V):M Out :=
 zb (za (zr .lss (zc vs 3) (zc vs 2))) fun x9 =>
 zb (zn x9 (ret (.nxt [(zc vs 0),(zc vs 1),(zc vs 2),(zc vs 3)])) (ret (.brk 0 []))) fun o=>nx o fun vs_2 =>
 zb (
 zb (
  zb (za (zq n (zc vs_2 0) (zc vs_2 3))) fun x14 =>
  zb (ldn n x14) fun x15 =>
  zb (zn4 (ovr [] S) (zc vs_2 1) [x15]) fun x16 =>
  zn x16 (
   ret (.ret [(zc vs_2 3)])
   ) (
   ret (.nxt [(zc vs_2 0),(zc vs_2 1),(zc vs_2 2),(zc vs_2 3)])
   )
  ) fun o=>ret (zw 1 o)
 ) fun o=>nx o fun vs_3 =>
 zb (za (zr .add (zc vs_3 3) (Value.int .i64 1))) fun x18 =>
 ret (.nxt [(zc vs_3 0),(zc vs_3 1),(zc vs_3 2),x18])
def ixF (n:Nat) (S:zv) (x0 x1:V):M V :=
 zb (
  zb (
   zb (za (zt x0)) fun x7 =>
   zb (
    zbf zbs (ixL n S) [x0,x1,x7,(Value.int .i64 0)]
    ) fun o=>ret (zw 0 o)
   ) fun o=>nx o fun _=>ret (.ret [(Value.int .i64 (-1))])
  ) fun o=>zbg o fun vs=>ret (zbe [(zc vs 0)])
def ctF (n:Nat) (S:zv) (x0 x1:V):M V :=
 zb (
  zb (ixF n S x0 x1) fun x7 =>
  zb (za (zr .geq x7 (Value.int .i64 0))) fun x8 =>
  ret (.ret [x8])
  ) fun o=>zbg o fun vs=>ret (zbe [(zc vs 0)])
theorem zbvs {α:Type} (p:α→Bool) (l:List α):l.any p=(zhl p l).isSome:=by
 cases h:zhl p l with
 | none =>
  rw[zsv] at h
  simpa using h
 | some i =>
  cases l with
  | nil=>cases h
  | cons x l =>
   obtain⟨h1,h2,_⟩:=z9o (d:=x) h
   simp only[Option.isSome_some,List.any_eq_true]
   exact⟨_,zci h1,h2⟩
theorem zbus {α:Type} [Flat α] [Inhabited α] {n:Nat} {S:zv} {f:V} {H:Heap} {v:V} {l:List α} (hs:Flat.size α=n) (h:Sl H v l) (hl:l.length≤1000000000) (p:α→Bool) (hp:∀ (H2:Heap) (x:α) (Q:V→Heap→Prop),Keeps [] H H2→(∀ H',Keeps [] H2 H'→Q (.bool (p x)) H')→wp (zn4 (ovr [] S) f [.agg (Flat.enc x).toArray]) Q H2)
  (Q:V→Heap→Prop) (hQ:∀ H',Keeps [] H H'→Q (.bool (l.any p)) H'):wp (ctF n S v f) Q H:=by
 have hlen:=h.len
 rw[zbvs] at hQ
 unfold ctF ixF
 (try simp(maxSteps:=1000000)(disch:=first|omega|(simp only[Z3];omega)|(simp;done)|assumption|decide|(apply not_not_intro;assumption))only[ZB,hlen])
 refine zbt l.length (by omega) (fun j vs H'=>vs=[v,f,i64 l.length,i64 j]∧Keeps [] H H'∧(∀ i,i < j→p (l.getD i default)=false)) ⟨rfl,Keeps.refl _ _,by omega⟩ ?_
 rintro j vs H1 hj ⟨rfl,hk1,hn⟩
 by_cases hlt:j < l.length
 case neg =>
  have:j=l.length:=by omega
  subst this
  rw[zbft hn] at hQ
  have e:decide ((-1:Int)≥0)=false:=by decide
  (try simp(maxSteps:=1000000)(disch:=first|omega|(simp only[Z3];omega)|(simp;done)|assumption|decide|(apply not_not_intro;assumption))only[ZB,ixL,e])
  exact hQ _ hk1
 have a1:=(h.keep0 hk1).addr' (n:=n) hs (k := .i64) (i:=j) (by omega) (by omega)
 rw[Int.toNat_natCast] at a1
 have d1:=fun Q=>(h.keep0 hk1).ldn' (Q:=Q) (n:=n) hs hlt default
 (try simp(maxSteps:=1000000)(disch:=first|omega|(simp only[Z3];omega)|(simp;done)|assumption|decide|(apply not_not_intro;assumption))only[ZA,zp,zo,zm,zi,zf,zg,zh,zd,ixL,a1,d1])
 refine hp H1 _ _ hk1 fun H2 k2=>?_
 cases hq:p (l.getD j default) with
 | true =>
  rw[zwo hlt hq hn] at hQ
  have e:decide ((j:Int)≥0)=true:=by simp
  (try simp(maxSteps:=1000000)(disch:=first|omega|(simp only[Z3];omega)|(simp;done)|assumption|decide|(apply not_not_intro;assumption))only[ZB,e])
  exact hQ _ (hk1.trans k2 (by simp))
 | false =>
  (try simp(maxSteps:=1000000)(disch:=first|omega|(simp only[Z3];omega)|(simp;done)|assumption|decide|(apply not_not_intro;assumption))only[ZB])
  refine⟨hlt,rfl,hk1.trans k2 (by simp),fun i hi=>?_⟩
  rcases Nat.lt_or_eq_of_le (Nat.lt_succ_iff.1 hi) with q | rfl
  ·exact hn i q
  ·exact hq
theorem ctGr {S:zv} (x0 x1:V):zbl S [x0,x1]=ctF 3 S x0 x1:=rfl
theorem zb4r {S:zv} (x0 x1:V):zb9 S [x0,x1]=ctF 5 S x0 x1:=rfl
theorem zb15 {H:Heap} {b:Nat} {n:Int} (hg:H.get b=some (.cells true [i64 n])) (x:Gr) (Q:V→Heap→Prop) (hQ:∀ H',Keeps [] H H'→Q (.bool (decide (x.part≥n))) H'):wp (zew [.agg (Flat.enc x).toArray,ptr b 0]) Q H:=by
 show wp (zxk (.agg (Flat.enc x).toArray) (ptr b 0)) Q H
 have hn:=Heap.get_lt hg
 (try simp(maxSteps:=1000000)(disch:=first|omega|(simp only[Z3];omega)|(simp;done)|assumption|decide|(apply not_not_intro;assumption))only[ZB,zxk,zys,hg])
 exact hQ _ (Keeps.push _ _ _)
theorem zb16 {H:Heap} {b:Nat} {n:Int} (hg:H.get b=some (.cells true [i64 n])) (x:Port) (Q:V→Heap→Prop) (hQ:∀ H',Keeps [] H H'→Q (.bool (decide (x.src≥n∨x.dst≥n))) H'):wp (zex [.agg (Flat.enc x).toArray,ptr b 0]) Q H:=by
 show wp (zq4 (.agg (Flat.enc x).toArray) (ptr b 0)) Q H
 have hn:=Heap.get_lt hg
 have q:=hQ _ (Keeps.push _ _ (some (.cells true (Flat.enc x))))
 by_cases h:x.src≥n
 ·(try simp(maxSteps:=1000000)(disch:=first|omega|(simp only[Z3];omega)|(simp;done)|assumption|decide|(apply not_not_intro;assumption))only[ZB,zq4,z8z,hg])
  rw[decide_eq_true (.inl h)] at q
  exact q
 ·(try simp(maxSteps:=1000000)(disch:=first|omega|(simp only[Z3];omega)|(simp;done)|assumption|decide|(apply not_not_intro;assumption))only[ZB,zq4,z8z,hg])
  have e:decide (x.src≥n∨x.dst≥n)=decide (x.dst≥n):=decide_eq_decide.2 (by omega)
  rw[e] at q
  exact q
def mayG (unit n:Int) (out:Bool) (g:Gr):Bool:=decide (g.part=unit) && (decide (g.point=n) && (g.write || !out))
theorem zb17 {H:Heap} {a b c:Nat} {unit n:Int} {out:Bool} (ha:H.get a=some (.cells true [i64 unit])) (hb:H.get b=some (.cells true [i64 n])) (hc:H.get c=some (.cells true [.bool out])) (x:Gr) (Q:V→Heap→Prop) (hQ:∀ H',Keeps [] H H'→Q (.bool (mayG unit n out x)) H'):wp (zfx [.agg (Flat.enc x).toArray,ptr a 0,ptr b 0,ptr c 0]) Q H:=by
 show wp (zeb (.agg (Flat.enc x).toArray) (ptr a 0) (ptr b 0) (ptr c 0)) Q H
 have na:=Heap.get_lt ha
 have nb:=Heap.get_lt hb
 have nc:=Heap.get_lt hc
 have q:=hQ _ (Keeps.push _ _ (some (.cells true [i64 x.part,i64 x.point,.bool x.write])))
 unfold mayG at q
 obtain⟨pa,po,w⟩:=x
 simp only at q
 by_cases h1:pa=unit
 ·by_cases h2:po=n
  ·rw[decide_eq_true h1,decide_eq_true h2] at q
   cases w
   ·cases out
    ·(try simp(maxSteps:=1000000)(disch:=first|omega|(simp only[Z3];omega)|(simp;done)|assumption|decide|(apply not_not_intro;assumption))only[ZB,zeb,zys,ha,hb,hc,h1,h2])
     simpa[h1,h2] using q
    ·(try simp(maxSteps:=1000000)(disch:=first|omega|(simp only[Z3];omega)|(simp;done)|assumption|decide|(apply not_not_intro;assumption))only[ZB,zeb,zys,ha,hb,hc,h1,h2])
     simpa[h1,h2] using q
   ·(try simp(maxSteps:=1000000)(disch:=first|omega|(simp only[Z3];omega)|(simp;done)|assumption|decide|(apply not_not_intro;assumption))only[ZB,zeb,zys,ha,hb,hc,h1,h2])
    simpa[h1,h2] using q
  ·rw[decide_eq_true h1,decide_eq_false h2] at q
   (try simp(maxSteps:=1000000)(disch:=first|omega|(simp only[Z3];omega)|(simp;done)|assumption|decide|(apply not_not_intro;assumption))only[ZB,zeb,zys,ha,hb,hc,h1])
   simpa[h1] using q
 ·rw[decide_eq_false h1] at q
  (try simp(maxSteps:=1000000)(disch:=first|omega|(simp only[Z3];omega)|(simp;done)|assumption|decide|(apply not_not_intro;assumption))only[ZB,zeb,zys,ha,hb,hc])
  simpa using q
def zbkd (s:Sy) (unit n:Int) (out:Bool):Bool:=s.grs.any (mayG unit n out)
def zbke (s:Sy) (unit n:Int) (out:Bool):Bool:=if n < 0∨n≥s.prs.length then false else if out then decide ((s.prs.getD n.toNat default).src=unit) else decide ((s.prs.getD n.toNat default).dst=unit)
def z2j (s:Sy) (unit:Int) (b:Bd) (out:Bool):Bool:=if b.kind=1 then zbkd s unit b.n out else if b.kind=2 then zbke s unit b.n out else false
theorem zbpn {H:Heap} {x:SyV} {s:Sy} (h:SysAt H x s) (n unit:Int) (out:Bool) (Q:V→Heap→Prop) (hQ:∀ H',Keeps [] H H'→Q (.bool (zbkd s unit n out)) H'):wp (zju [i64 n,.agg (x.cs s).toArray,i64 unit,.bool out]) Q H:=by
 show wp (zsq (i64 n) (.agg (x.cs s).toArray) (i64 unit) (.bool out)) Q H
 have ho:=h.one
 have hlen:s.grs.length≤1000000000:=by have:=h.small;omega
 unfold SyV.cs at ho ⊢
 unfold zsq
 rw[z6,z6]
 refine (zbij rfl).mpr ?_
 rw[z6]
 refine (zby ho).mpr ?_
 rw[z6]
 refine (zbij rfl).mpr ?_
 rw[z6]
 refine (zbij rfl).mpr ?_
 have k1:Keeps [] H ((((H.push (some (.cells true [i64 n]))).push (some (.cells true [x.pv,x.gv,x.qv,i64 s.frame,x.wv,x.uv,i64 s.millis]))).push (some (.cells true [i64 unit]))).push (some (.cells true [.bool out]))):=by (repeat (first | exact Keeps.refl _ _ | assumption | apply zbw | refine zb1 ?_ (by simp;omega)))
 have g1:((((H.push (some (.cells true [i64 n]))).push (some (.cells true [x.pv,x.gv,x.qv,i64 s.frame,x.wv,x.uv,i64 s.millis]))).push (some (.cells true [i64 unit]))).push (some (.cells true [.bool out]))).get H.next=some (.cells true [i64 n]):=by (try simp(maxSteps:=1000000)(disch:=first|omega|(simp only[Z3];omega)|(simp;done)|assumption|decide|(apply not_not_intro;assumption))only[ZB])
 have g2:((((H.push (some (.cells true [i64 n]))).push (some (.cells true [x.pv,x.gv,x.qv,i64 s.frame,x.wv,x.uv,i64 s.millis]))).push (some (.cells true [i64 unit]))).push (some (.cells true [.bool out]))).get (H.next + 1)=some (.cells true [x.pv,x.gv,x.qv,i64 s.frame,x.wv,x.uv,i64 s.millis]):=by (try simp(maxSteps:=1000000)(disch:=first|omega|(simp only[Z3];omega)|(simp;done)|assumption|decide|(apply not_not_intro;assumption))only[ZB])
 have g3:((((H.push (some (.cells true [i64 n]))).push (some (.cells true [x.pv,x.gv,x.qv,i64 s.frame,x.wv,x.uv,i64 s.millis]))).push (some (.cells true [i64 unit]))).push (some (.cells true [.bool out]))).get (H.next + 2)=some (.cells true [i64 unit]):=by (try simp(maxSteps:=1000000)(disch:=first|omega|(simp only[Z3];omega)|(simp;done)|assumption|decide|(apply not_not_intro;assumption))only[ZB])
 have g4:((((H.push (some (.cells true [i64 n]))).push (some (.cells true [x.pv,x.gv,x.qv,i64 s.frame,x.wv,x.uv,i64 s.millis]))).push (some (.cells true [i64 unit]))).push (some (.cells true [.bool out]))).get (H.next + 3)=some (.cells true [.bool out]):=by (try simp(maxSteps:=1000000)(disch:=first|omega|(simp only[Z3];omega)|(simp;done)|assumption|decide|(apply not_not_intro;assumption))only[ZB])
 simp only[Heap.next_push']
 generalize (((H.push (some (.cells true [i64 n]))).push (some (.cells true [x.pv,x.gv,x.qv,i64 s.frame,x.wv,x.uv,i64 s.millis]))).push (some (.cells true [i64 unit]))).push (some (.cells true [.bool out]))=H1 at *
 (try simp(maxSteps:=1000000)(disch:=first|omega|(simp only[Z3];omega)|(simp;done)|assumption|decide|(apply not_not_intro;assumption))only[ZB,g2,ctGr])
 refine zbus (α:=Gr) rfl (h.grs.keep0 k1) hlen (mayG unit n out) (fun H2 y R k2 hR=>?_) _ fun H2 k2=>?_
 ·have e:∀ R,wp (zfx [.agg (Flat.enc y).toArray,ptr (H.next + 2) 0,ptr H.next 0,ptr (H.next + 3) 0]) R H2→wp (zn4 (ovr [] (ovr [(zei,zfx)] noC)) (.func (.func zei) #[] #[ptr (H.next + 1 + 1) 0,ptr H.next 0,ptr (H.next + 1 + 1 + 1) 0]) [.agg (Flat.enc y).toArray]) R H2:=fun R h=>h
  exact e _ (zb17 (k2.get g3 (by simp)) (k2.get g1 (by simp)) (k2.get g4 (by simp)) y R hR)
 ·(try simp(maxSteps:=1000000)(disch:=first|omega|(simp only[Z3];omega)|(simp;done)|assumption|decide|(apply not_not_intro;assumption))only[ZB])
  exact hQ _ (k1.trans k2 (by simp))
end Go.AM.Cap

/- conf: binds of units; exec.Check -/
set_option maxHeartbeats 8000000
namespace Go.AM.Cap
open Go.AM Go.Proofs
theorem z32 {α:Type} [Flat α] {H:Heap} {v:V} {l:List α} (h:Sl H v l):vEq.vEq1 v v=true:=by
 rcases h with⟨rfl,_⟩ | ⟨b,o,u,c,rfl,_⟩ <;> simp[vEq.vEq1]
theorem zbkf:∀ l:List V,(∀ v∈l,vEq.vEq1 v v=true)→vEq.vEqs l l=true
 | [],_=>rfl
 | v :: l,h=>by
  have h1:=h v (by simp)
  have h2:=zbkf l (fun w hw=>h w (by simp[hw]))
  simp[vEq.vEqs,h1,h2]
theorem zbpo {H:Heap} {p n:Nat} {cs:List V} {rw_:Bool} (h:H.get p=some (.cells rw_ cs)) (hn:cs.length=n) (hv:∀ v∈cs,vEq.vEq1 v v=true):chk (ldn n (ptr p 0)) H (.agg cs.toArray)=true:=by
 have:wp (ldn n (ptr p 0)) (fun r _=>r = .agg cs.toArray) H:=(z7 h hn).mpr rfl
 obtain⟨r,H',h1,h2⟩:=this
 unfold chk
 rw[h1,h2]
 show vEq.vEqs cs cs=true
 exact zbkf _ hv
theorem SysAt.same {H:Heap} {x:SyV} {s:Sy} (h:SysAt H x s):∀ v∈x.cs s,vEq.vEq1 v v=true:=by
 obtain⟨l,h1,_⟩:=h.uns
 intro v hv
 simp only[SyV.cs,List.mem_cons,List.not_mem_nil,or_false] at hv
 rcases hv with rfl | rfl | rfl | rfl | rfl | rfl | rfl
 ·exact z32 h.pts
 ·exact z32 h.grs
 ·exact z32 h.prs
 ·simp[vEq.vEq1]
 ·exact z32 h.wins
 ·exact z32 h1.out
 ·simp[vEq.vEq1]
def bdV (b:Bd):V:=if b.kind=1 then .iface zqq (i64 b.n) else if b.kind=2 then .iface zs1 (i64 b.n) else .iface zw6 (.agg #[])
theorem zbvt (b:Bd):(bdV b).isOne=true:=by unfold bdV;(repeat' split) <;> rfl
theorem zbkg {H:Heap} (b:Bd) (Q:V→Heap→Prop) (hQ:∀ H',Keeps [] H H'→Q (bdV b) H'):wp (zey [.agg (Flat.enc b).toArray]) Q H:=by
 show wp (zq5 (.agg (Flat.enc b).toArray)) Q H
 have q:=hQ _ (Keeps.push _ _ (some (.cells true (Flat.enc b))))
 unfold bdV at q
 by_cases h1:b.kind=1
 ·rw[if_pos h1] at q
  (try simp(maxSteps:=1000000)(disch:=first|omega|(simp only[Z3];omega)|(simp;done)|assumption|decide|(apply not_not_intro;assumption))only[ZB,zq5,z09])
  exact q
 ·rw[if_neg h1] at q
  by_cases h2:b.kind=2
  ·rw[if_pos h2] at q
   (try simp(maxSteps:=1000000)(disch:=first|omega|(simp only[Z3];omega)|(simp;done)|assumption|decide|(apply not_not_intro;assumption))only[ZB,zq5,z09])
   exact q
  ·rw[if_neg h2] at q
   have e:build ([]:List V) []=some (.agg #[]):=rfl
   (try simp(maxSteps:=1000000)(disch:=first|omega|(simp only[Z3];omega)|(simp;done)|assumption|decide|(apply not_not_intro;assumption))only[ZB,zq5,z09,zba6,e])
   exact q
theorem zbut (x:V):invG Tryz.prog (.iface zqq x) "capstan/exec.may" = some (zhq,x):=by kernel_rfl
theorem zbxg (x:V):invG Tryz.prog (.iface zs1 x) "capstan/exec.may" = some (zih,x):=by kernel_rfl
theorem zbuu (x:V):invG Tryz.prog (.iface zw6 x) "capstan/exec.may" = some (zhs,x):=by kernel_rfl
theorem zbfu {P:Program} {S:zv} {v x:V} {name:String} {g:Nat} {args:List V} (h:invG P v name=some (g,x)):invM P S v name args=S g (x :: args):=by
 unfold invM;rw[h];rfl
theorem zbkh {g:Nat} {F:List V→M V} {l:List (Nat × (List V→M V))} {S:zv}:ovr ((g,F) :: l) S g=F:=by
 simp only[ovr]
 cases h:Nat.beq g g with
 | true=>rfl
 | false=>rw[Nat.beq_refl] at h;cases h
theorem zbpp {f g:Nat} {F:List V→M V} {l:List (Nat × (List V→M V))} {S:zv} (h:Nat.beq f g=false):ovr ((g,F) :: l) S f=ovr l S f:=by
 simp only[ovr,h];rfl
theorem zbsm {H:Heap} {x:SyV} {s:Sy} (h:SysAt H x s) (n unit:Int) (out:Bool) (Q:V→Heap→Prop) (hQ:∀ H',Keeps [] H H'→Q (.bool (zbke s unit n out)) H'):wp (zk1 [i64 n,.agg (x.cs s).toArray,i64 unit,.bool out]) Q H:=by
 show wp (zuq (i64 n) (.agg (x.cs s).toArray) (i64 unit) (.bool out)) Q H
 have ho:=h.one
 unfold SyV.cs at ho ⊢
 have hlen:=h.prs.len
 have k1:Keeps [] H (H.push (some (.cells true [x.pv,x.gv,x.qv,i64 s.frame,x.wv,x.uv,i64 s.millis]))):=Keeps.push _ _ _
 have g1:(H.push (some (.cells true [x.pv,x.gv,x.qv,i64 s.frame,x.wv,x.uv,i64 s.millis]))).get H.next=some (.cells true [x.pv,x.gv,x.qv,i64 s.frame,x.wv,x.uv,i64 s.millis]):=Heap.get_push_self _ _
 have hp1:=h.prs.keep0 k1
 have q:=hQ _ k1
 unfold zuq
 rw[z6,z6]
 refine (zby ho).mpr ?_
 generalize H.push (some (.cells true [x.pv,x.gv,x.qv,i64 s.frame,x.wv,x.uv,i64 s.millis]))=H1 at *
 by_cases h1:n < 0∨n≥s.prs.length
 ·rw[zbke,if_pos h1] at q
  by_cases h2:n < 0
  ·(try simp(maxSteps:=1000000)(disch:=first|omega|(simp only[Z3];omega)|(simp;done)|assumption|decide|(apply not_not_intro;assumption))only[ZB,g1])
   exact q
  ·(try simp(maxSteps:=1000000)(disch:=first|omega|(simp only[Z3];omega)|(simp;done)|assumption|decide|(apply not_not_intro;assumption))only[ZB,g1,hlen])
   exact q
 ·rw[zbke,if_neg h1] at q
  have a1:=hp1.addr' (n:=5) rfl (k := .i64) (i:=n) (by omega) (by omega)
  have hlt:n.toNat < s.prs.length:=by omega
  have c1:=hp1.cell' (n:=5) rfl (off:=1) hlt (by omega) default
  have c2:=hp1.cell' (n:=5) rfl (off:=2) hlt (by omega) default
  rw[zbj] at c1 c2
  have e1:(Flat.enc (s.prs.getD n.toNat default))[1]? = some (i64 (s.prs.getD n.toNat default).src):=rfl
  have e2:(Flat.enc (s.prs.getD n.toNat default))[2]? = some (i64 (s.prs.getD n.toNat default).dst):=rfl
  rw[e1] at c1
  rw[e2] at c2
  cases out
  ·(try simp(maxSteps:=1000000)(disch:=first|omega|(simp only[Z3];omega)|(simp;done)|assumption|decide|(apply not_not_intro;assumption))only[ZB,g1,hlen,zss,zsr,a1,c1,c2])
   simpa using q
  ·(try simp(maxSteps:=1000000)(disch:=first|omega|(simp only[Z3];omega)|(simp;done)|assumption|decide|(apply not_not_intro;assumption))only[ZB,g1,hlen,zss,zsr,a1,c1,c2])
   simpa using q
theorem zbpq {H:Heap} {x:SyV} {s:Sy} (h:SysAt H x s) (unit:Int) (out:Bool) (Q:V→Heap→Prop) (hQ:∀ H',Keeps [] H H'→Q (.bool false) H'):wp (zjv [.agg #[],.agg (x.cs s).toArray,i64 unit,.bool out]) Q H:=by
 show wp (zst (.agg #[]) (.agg (x.cs s).toArray) (i64 unit) (.bool out)) Q H
 have ho:=h.one
 have e:∀ Q,wp (zdf (.agg #[])) Q H↔Q (ptr H.next 0) (H.push (some (.cells true []))):=fun Q=>zby (vs:=[]) rfl
 unfold zst
 rw[z6,z6,e]
 rw[z6]
 refine (zby ho).mpr ?_
 (try simp(maxSteps:=1000000)(disch:=first|omega|(simp only[Z3];omega)|(simp;done)|assumption|decide|(apply not_not_intro;assumption))only[ZB])
 exact hQ _ (zbw (Keeps.push _ _ _))
theorem zbxh {H:Heap} {v:V} {l:List Bd} (h:Sl H v l) (hl:l.length≤1000000000) (b:Bd) (Q:V→Heap→Prop) (hQ:∀ H',Keeps [] H H'→Q (i64 (zk2 (zhl (fun x=>decide (b=x)) l))) H'):wp (zc2 [v,.agg (Flat.enc b).toArray]) Q H:=by
 show wp (zea v (.agg (Flat.enc b).toArray)) Q H
 have hlen:=h.len
 have k1:Keeps [] H (H.push (some (.cells true (Flat.enc b)))):=Keeps.push _ _ _
 have g1:(H.push (some (.cells true (Flat.enc b)))).get H.next=some (.cells true (Flat.enc b)):=Heap.get_push_self _ _
 unfold zea
 rw[z6,z6]
 refine (zby (Flat.one b)).mpr ?_
 generalize H.push (some (.cells true (Flat.enc b)))=H1 at *
 have d0:=fun Q=>z7 (n:=2) (Q:=Q) g1 rfl
 (try simp(maxSteps:=1000000)(disch:=first|omega|(simp only[Z3];omega)|(simp;done)|assumption|decide|(apply not_not_intro;assumption))only[ZB,hlen])
 refine zbt l.length (by omega) (fun j vs H'=>vs=[v,ptr H.next 0,i64 l.length,i64 j]∧H'=H1∧(∀ i,i < j→decide (b=l.getD i default)=false)) ⟨rfl,rfl,by omega⟩ ?_
 rintro j vs H2 hj ⟨rfl,rfl,hn⟩
 by_cases hlt:j < l.length
 case neg =>
  have:j=l.length:=by omega
  subst this
  have e:zk2 (zhl (fun x=>decide (b=x)) l) = -1:=by rw[zbft hn];rfl
  rw[e] at hQ
  (try simp(maxSteps:=1000000)(disch:=first|omega|(simp only[Z3];omega)|(simp;done)|assumption|decide|(apply not_not_intro;assumption))only[ZB,zcx,zhg])
  exact hQ _ k1
 have h2:=h.keep0 k1
 have a1:=h2.addr' (n:=2) rfl (k := .i64) (i:=j) (by omega) (by omega)
 rw[Int.toNat_natCast] at a1
 have d1:=fun Q=>h2.ldn' (Q:=Q) (n:=2) rfl hlt default
 have e2:zcp false (ze6 [.i,.i] (.agg (Flat.enc b).toArray) (.agg (Flat.enc (l.getD j default)).toArray))=some (.bool (decide (b=l.getD j default))):=by
  generalize l.getD j default=y
  obtain⟨b1,b2⟩:=b
  obtain⟨y1,y2⟩:=y
  simp only[z09,ze6,zlz,eqK,if_true,zbik,zcp,Bd.mk.injEq]
  by_cases q1:b1=y1 <;> by_cases q2:b2=y2 <;> simp[q1,q2]
 by_cases hq:b=l.getD j default
 ·have e:zk2 (zhl (fun x=>decide (b=x)) l)=j:=by rw[zwo (d:=default) hlt (decide_eq_true hq) hn];rfl
  rw[e] at hQ
  rw[decide_eq_true hq] at e2
  (try simp(maxSteps:=1000000)(disch:=first|omega|(simp only[Z3];omega)|(simp;done)|assumption|decide|(apply not_not_intro;assumption))only[ZA,zp,zo,zm,zi,zf,zg,zh,zd,zcx,zd6,a1,d0,d1,e2])
  exact hQ _ k1
 ·rw[decide_eq_false hq] at e2
  (try simp(maxSteps:=1000000)(disch:=first|omega|(simp only[Z3];omega)|(simp;done)|assumption|decide|(apply not_not_intro;assumption))only[ZA,zp,zo,zm,zi,zf,zg,zh,zd,zcx,zd6,a1,d0,d1,e2,zhf])
  refine⟨hlt,rfl,fun i hi=>?_⟩
  rcases Nat.lt_or_eq_of_le (Nat.lt_succ_iff.1 hi) with q | rfl
  ·exact hn i q
  ·exact decide_eq_false hq
theorem zbpr {H:Heap} {v:V} {l:List Bd} (h:Sl H v l) (hl:l.length≤1000000000) (b:Bd) (Q:V→Heap→Prop) (hQ:∀ H',Keeps [] H H'→Q (.bool (decide (b∈l))) H'):wp (zbv [v,.agg (Flat.enc b).toArray]) Q H:=by
 show wp (zdz v (.agg (Flat.enc b).toArray)) Q H
 have k1:Keeps [] H (H.push (some (.cells true (Flat.enc b)))):=Keeps.push _ _ _
 have g1:(H.push (some (.cells true (Flat.enc b)))).get H.next=some (.cells true (Flat.enc b)):=Heap.get_push_self _ _
 unfold zdz
 rw[z6,z6]
 refine (zby (Flat.one b)).mpr ?_
 generalize H.push (some (.cells true (Flat.enc b)))=H1 at *
 have d0:=fun Q=>z7 (n:=2) (Q:=Q) g1 rfl
 rw[z6,d0,z6]
 refine zbxh (h.keep0 k1) hl b _ fun H2 k2=>?_
 have q:=hQ _ (k1.trans k2 (by simp))
 cases hf:zhl (fun x=>decide (b=x)) l with
 | none =>
  have:¬ b∈l:=fun q=>by have:=zsv.1 hf b q;simp at this
  rw[decide_eq_false this] at q
  have e:decide (((-1:Int))≥0)=false:=by decide
  (try simp(maxSteps:=1000000)(disch:=first|omega|(simp only[Z3];omega)|(simp;done)|assumption|decide|(apply not_not_intro;assumption))only[ZB,zk2,e])
  exact q
 | some i =>
  obtain⟨hi,hp,_⟩:=z9o (d:=default) hf
  have:b∈l:=by
   have e:b=l.getD i default:=by simpa using hp
   rw[e];exact zci hi
  rw[decide_eq_true this] at q
  have e:decide ((i:Int)≥0)=true:=by simp
  (try simp(maxSteps:=1000000)(disch:=first|omega|(simp only[Z3];omega)|(simp;done)|assumption|decide|(apply not_not_intro;assumption))only[ZB,zk2,e])
  exact q
theorem zbil {α:Type} [Flat α] {H:Heap} {v:V} {l:List α} {n:Nat} (hs:Flat.size α=n) (h:Sl H v l) {j:Nat} (hj:j < l.length):∃ w,zgs n v none (some (i64 (j:Int)))=some w∧Sl H w (l.take j):=by
 subst hs
 rcases h with⟨rfl,rfl⟩ | ⟨b,o,u,c,rfl,hc,hb,hl,hu⟩
 ·simp at hj
 ·have hj':(l.take j).length=j:=by simp;omega
  refine⟨slc b o u j c,?_,.inr ⟨b,o,u,c,by rw[hj'],by omega,hb,?_,?_⟩⟩
  ·have hb0:zc8 0 j none=some 0:=rfl
   have e1:zc8 l.length c (some (i64 (j:Int)))=some j:=by simp[zc8];omega
   simp only[zgs,e1,hb0]
   have hu2:u=Flat.size α∨u=0:=hu.symm
   rw[if_pos hu2]
   simp[ztn]
  ·by_cases h0:j=0
   ·left;subst h0;rfl
   ·right
    rcases hl with rfl | ⟨rw_,cs,hg,q1,q2⟩
    ·simp at hj
    ·refine⟨rw_,cs,hg,?_,?_⟩
     ·rw[hj']
      have:j * Flat.size α≤l.length * Flat.size α:=Nat.mul_le_mul_right _ (by omega)
      omega
     ·rw[hj',← zbgn,← q2,List.take_take,Nat.min_eq_left (Nat.mul_le_mul_right _ (by omega))]
  ·exact hu
end Go.AM.Cap
