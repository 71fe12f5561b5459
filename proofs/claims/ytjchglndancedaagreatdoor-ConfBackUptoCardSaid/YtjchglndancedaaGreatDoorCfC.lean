import Derived.Test.YtjchglndancedaaGreatDoorCfB
import Derived.Test.YtjchglndancedaaGreatDoorAmIn
set_option linter.all false
/- conf: who may use what: binds of units -/
set_option maxHeartbeats 8000000
namespace Go.AM.Cap
open Go.AM Go.Proofs
def ixL (n:Nat) (S:zu) (vs:List V):M Out :=
 zb (za (zy .lss (zd vs 3) (zd vs 2))) fun x9 =>
 zb (zn x9 (ret (.nxt [(zd vs 0),(zd vs 1),(zd vs 2),(zd vs 3)])) (ret (.brk 0 []))) fun o=>nx o fun vs_2 =>
 zb (
 zb (
  zb (za (zx n (zd vs_2 0) (zd vs_2 3))) fun x14 =>
  zb (ldn n x14) fun x15 =>
  zb (zmm (ovr [] S) (zd vs_2 1) [x15]) fun x16 =>
  zn x16 (
   ret (.ret [(zd vs_2 3)])
   ) (
   ret (.nxt [(zd vs_2 0),(zd vs_2 1),(zd vs_2 2),(zd vs_2 3)])
   )
  ) fun o=>ret (zz 1 o)
 ) fun o=>nx o fun vs_3 =>
 zb (za (zy .add (zd vs_3 3) (Value.int .i64 1))) fun x18 =>
 ret (.nxt [(zd vs_3 0),(zd vs_3 1),(zd vs_3 2),x18])
def ixF (n:Nat) (S:zu) (x0 x1:V):M V :=
 zb (
  zb (
   zb (za (zv x0)) fun x7 =>
   zb (
    zbg zby (ixL n S) [x0,x1,x7,(Value.int .i64 0)]
    ) fun o=>ret (zz 0 o)
   ) fun o=>nx o fun _=>ret (.ret [(Value.int .i64 (-1))])
  ) fun o=>zbl o fun vs=>ret (zbh [(zd vs 0)])
def ctF (n:Nat) (S:zu) (x0 x1:V):M V :=
 zb (
  zb (ixF n S x0 x1) fun x7 =>
  zb (za (zy .geq x7 (Value.int .i64 0))) fun x8 =>
  ret (.ret [x8])
  ) fun o=>zbl o fun vs=>ret (zbh [(zd vs 0)])
theorem zbn4 {α:Type} (p:α→Bool) (l:List α):l.any p=(zg7 p l).isSome:=by
 cases h:zg7 p l with
 | none =>
  rw[zyx] at h
  simpa using h
 | some i =>
  cases l with
  | nil=>cases h
  | cons x l =>
   obtain⟨h1,h2,_⟩:=z35 (d:=x) h
   simp only[Option.isSome_some,List.any_eq_true]
   exact⟨_,zb4 h1,h2⟩
theorem zbmy {α:Type} [Flat α] [Inhabited α] {n:Nat} {S:zu} {f:V} {H:Heap} {v:V} {l:List α} (hs:Flat.size α=n) (h:Sl H v l) (hl:l.length≤1000000000) (p:α→Bool) (hp:∀ (H2:Heap) (x:α) (Q:V→Heap→Prop),Keeps [] H H2→(∀ H',Keeps [] H2 H'→Q (.bool (p x)) H')→wp (zmm (ovr [] S) f [.agg (Flat.enc x).toArray]) Q H2)
  (Q:V→Heap→Prop) (hQ:∀ H',Keeps [] H H'→Q (.bool (l.any p)) H'):wp (ctF n S v f) Q H:=by
 have hlen:=h.len
 rw[zbn4] at hQ
 unfold ctF ixF
 (try simp(maxSteps:=1000000)(disch:=first|omega|(simp only[Z3];omega)|(simp;done)|assumption|decide|(apply not_not_intro;assumption))only[ZB,hlen])
 refine zb2 l.length (by omega) (fun j vs H'=>vs=[v,f,i64 l.length,i64 j]∧Keeps [] H H'∧(∀ i,i < j→p (l.getD i default)=false)) ⟨rfl,Keeps.refl _ _,by omega⟩ ?_
 rintro j vs H1 hj ⟨rfl,hk1,hn⟩
 by_cases hlt:j < l.length
 case neg =>
  have:j=l.length:=by omega
  subst this
  rw[z8w hn] at hQ
  have e:decide ((-1:Int)≥0)=false:=by decide
  (try simp(maxSteps:=1000000)(disch:=first|omega|(simp only[Z3];omega)|(simp;done)|assumption|decide|(apply not_not_intro;assumption))only[ZB,ixL,e])
  exact hQ _ hk1
 have a1:=(h.keep0 hk1).addr' (n:=n) hs (k := .i64) (i:=j) (by omega) (by omega)
 rw[Int.toNat_natCast] at a1
 have d1:=fun Q=>(h.keep0 hk1).ldn' (Q:=Q) (n:=n) hs hlt default
 (try simp(maxSteps:=1000000)(disch:=first|omega|(simp only[Z3];omega)|(simp;done)|assumption|decide|(apply not_not_intro;assumption))only[ZA,zp,zo,zm,zk,zj,zi,zh,ze,ixL,a1,d1])
 refine hp H1 _ _ hk1 fun H2 k2=>?_
 cases hq:p (l.getD j default) with
 | true =>
  rw[zt6 hlt hq hn] at hQ
  have e:decide ((j:Int)≥0)=true:=by simp
  (try simp(maxSteps:=1000000)(disch:=first|omega|(simp only[Z3];omega)|(simp;done)|assumption|decide|(apply not_not_intro;assumption))only[ZB,e])
  exact hQ _ (hk1.trans k2 (by simp))
 | false =>
  (try simp(maxSteps:=1000000)(disch:=first|omega|(simp only[Z3];omega)|(simp;done)|assumption|decide|(apply not_not_intro;assumption))only[ZB])
  refine⟨hlt,rfl,hk1.trans k2 (by simp),fun i hi=>?_⟩
  rcases Nat.lt_or_eq_of_le (Nat.lt_succ_iff.1 hi) with q | rfl
  ·exact hn i q
  ·exact hq
theorem ctGr {S:zu} (x0 x1:V):zbf S [x0,x1]=ctF 3 S x0 x1:=rfl
theorem zbym {S:zu} (x0 x1:V):zbx S [x0,x1]=ctF 5 S x0 x1:=rfl
theorem zbve {H:Heap} {b:Nat} {n:Int} (hg:H.get b=some (.cells true [i64 n])) (x:Gr) (Q:V→Heap→Prop) (hQ:∀ H',Keeps [] H H'→Q (.bool (decide (x.part≥n))) H'):wp (zem [.agg (Flat.enc x).toArray,ptr b 0]) Q H:=by
 show wp (zu8 (.agg (Flat.enc x).toArray) (ptr b 0)) Q H
 have hn:=Heap.get_lt hg
 (try simp(maxSteps:=1000000)(disch:=first|omega|(simp only[Z3];omega)|(simp;done)|assumption|decide|(apply not_not_intro;assumption))only[ZB,zu8,zvs,hg])
 exact hQ _ (Keeps.push _ _ _)
theorem zbvf {H:Heap} {b:Nat} {n:Int} (hg:H.get b=some (.cells true [i64 n])) (x:Port) (Q:V→Heap→Prop) (hQ:∀ H',Keeps [] H H'→Q (.bool (decide (x.src≥n∨x.dst≥n))) H'):wp (zen [.agg (Flat.enc x).toArray,ptr b 0]) Q H:=by
 show wp (zpl (.agg (Flat.enc x).toArray) (ptr b 0)) Q H
 have hn:=Heap.get_lt hg
 have q:=hQ _ (Keeps.push _ _ (some (.cells true (Flat.enc x))))
 by_cases h:x.src≥n
 ·(try simp(maxSteps:=1000000)(disch:=first|omega|(simp only[Z3];omega)|(simp;done)|assumption|decide|(apply not_not_intro;assumption))only[ZB,zpl,z27,hg])
  rw[decide_eq_true (.inl h)] at q
  exact q
 ·(try simp(maxSteps:=1000000)(disch:=first|omega|(simp only[Z3];omega)|(simp;done)|assumption|decide|(apply not_not_intro;assumption))only[ZB,zpl,z27,hg])
  have e:decide (x.src≥n∨x.dst≥n)=decide (x.dst≥n):=decide_eq_decide.2 (by omega)
  rw[e] at q
  exact q
def mayG (unit n:Int) (out:Bool) (g:Gr):Bool:=decide (g.part=unit) && (decide (g.point=n) && (g.write || !out))
theorem zbvg {H:Heap} {a b c:Nat} {unit n:Int} {out:Bool} (ha:H.get a=some (.cells true [i64 unit])) (hb:H.get b=some (.cells true [i64 n])) (hc:H.get c=some (.cells true [.bool out])) (x:Gr) (Q:V→Heap→Prop) (hQ:∀ H',Keeps [] H H'→Q (.bool (mayG unit n out x)) H'):wp (zfi [.agg (Flat.enc x).toArray,ptr a 0,ptr b 0,ptr c 0]) Q H:=by
 show wp (zd5 (.agg (Flat.enc x).toArray) (ptr a 0) (ptr b 0) (ptr c 0)) Q H
 have na:=Heap.get_lt ha
 have nb:=Heap.get_lt hb
 have nc:=Heap.get_lt hc
 have q:=hQ _ (Keeps.push _ _ (some (.cells true [i64 x.part,i64 x.point,.bool x.write])))
 unfold mayG at q
 obtain⟨pa,po,w⟩:=x
 simp only at q
 by_cases h1:pa=unit
 ·by_cases h2:po=n
  ·rw[decide_eq_true h1,decide_eq_true h2] at q
   cases w
   ·cases out
    ·(try simp(maxSteps:=1000000)(disch:=first|omega|(simp only[Z3];omega)|(simp;done)|assumption|decide|(apply not_not_intro;assumption))only[ZB,zd5,zvs,ha,hb,hc,h1,h2])
     simpa[h1,h2] using q
    ·(try simp(maxSteps:=1000000)(disch:=first|omega|(simp only[Z3];omega)|(simp;done)|assumption|decide|(apply not_not_intro;assumption))only[ZB,zd5,zvs,ha,hb,hc,h1,h2])
     simpa[h1,h2] using q
   ·(try simp(maxSteps:=1000000)(disch:=first|omega|(simp only[Z3];omega)|(simp;done)|assumption|decide|(apply not_not_intro;assumption))only[ZB,zd5,zvs,ha,hb,hc,h1,h2])
    simpa[h1,h2] using q
  ·rw[decide_eq_true h1,decide_eq_false h2] at q
   (try simp(maxSteps:=1000000)(disch:=first|omega|(simp only[Z3];omega)|(simp;done)|assumption|decide|(apply not_not_intro;assumption))only[ZB,zd5,zvs,ha,hb,hc,h1])
   simpa[h1] using q
 ·rw[decide_eq_false h1] at q
  (try simp(maxSteps:=1000000)(disch:=first|omega|(simp only[Z3];omega)|(simp;done)|assumption|decide|(apply not_not_intro;assumption))only[ZB,zd5,zvs,ha,hb,hc])
  simpa using q
def zbsj (s:Sy) (unit n:Int) (out:Bool):Bool:=s.grs.any (mayG unit n out)
def zbkl (s:Sy) (unit n:Int) (out:Bool):Bool:=if n < 0∨n≥s.prs.length then false else if out then decide ((s.prs.getD n.toNat default).src=unit) else decide ((s.prs.getD n.toNat default).dst=unit)
def z5r (s:Sy) (unit:Int) (b:Bd) (out:Bool):Bool:=if b.kind=1 then zbsj s unit b.n out else if b.kind=2 then zbkl s unit b.n out else false
theorem zbic {H:Heap} {x:SyV} {s:Sy} (h:SysAt H x s) (n unit:Int) (out:Bool) (Q:V→Heap→Prop) (hQ:∀ H',Keeps [] H H'→Q (.bool (zbsj s unit n out)) H'):wp (zi1 [i64 n,.agg (x.cs s).toArray,i64 unit,.bool out]) Q H:=by
 show wp (zq2 (i64 n) (.agg (x.cs s).toArray) (i64 unit) (.bool out)) Q H
 have ho:=h.one
 have hlen:s.grs.length≤1000000000:=by have:=h.small;omega
 unfold SyV.cs at ho ⊢
 unfold zq2
 rw[z6,z6]
 refine (zbbw rfl).mpr ?_
 rw[z6]
 refine (zcg ho).mpr ?_
 rw[z6]
 refine (zbbw rfl).mpr ?_
 rw[z6]
 refine (zbbw rfl).mpr ?_
 have k1:Keeps [] H ((((H.push (some (.cells true [i64 n]))).push (some (.cells true [x.pv,x.gv,x.qv,i64 s.frame,x.wv,x.uv,i64 s.millis]))).push (some (.cells true [i64 unit]))).push (some (.cells true [.bool out]))):=by (repeat (first | exact Keeps.refl _ _ | assumption | apply zbz | refine zbw ?_ (by simp;omega)))
 have g1:((((H.push (some (.cells true [i64 n]))).push (some (.cells true [x.pv,x.gv,x.qv,i64 s.frame,x.wv,x.uv,i64 s.millis]))).push (some (.cells true [i64 unit]))).push (some (.cells true [.bool out]))).get H.next=some (.cells true [i64 n]):=by (try simp(maxSteps:=1000000)(disch:=first|omega|(simp only[Z3];omega)|(simp;done)|assumption|decide|(apply not_not_intro;assumption))only[ZB])
 have g2:((((H.push (some (.cells true [i64 n]))).push (some (.cells true [x.pv,x.gv,x.qv,i64 s.frame,x.wv,x.uv,i64 s.millis]))).push (some (.cells true [i64 unit]))).push (some (.cells true [.bool out]))).get (H.next + 1)=some (.cells true [x.pv,x.gv,x.qv,i64 s.frame,x.wv,x.uv,i64 s.millis]):=by (try simp(maxSteps:=1000000)(disch:=first|omega|(simp only[Z3];omega)|(simp;done)|assumption|decide|(apply not_not_intro;assumption))only[ZB])
 have g3:((((H.push (some (.cells true [i64 n]))).push (some (.cells true [x.pv,x.gv,x.qv,i64 s.frame,x.wv,x.uv,i64 s.millis]))).push (some (.cells true [i64 unit]))).push (some (.cells true [.bool out]))).get (H.next + 2)=some (.cells true [i64 unit]):=by (try simp(maxSteps:=1000000)(disch:=first|omega|(simp only[Z3];omega)|(simp;done)|assumption|decide|(apply not_not_intro;assumption))only[ZB])
 have g4:((((H.push (some (.cells true [i64 n]))).push (some (.cells true [x.pv,x.gv,x.qv,i64 s.frame,x.wv,x.uv,i64 s.millis]))).push (some (.cells true [i64 unit]))).push (some (.cells true [.bool out]))).get (H.next + 3)=some (.cells true [.bool out]):=by (try simp(maxSteps:=1000000)(disch:=first|omega|(simp only[Z3];omega)|(simp;done)|assumption|decide|(apply not_not_intro;assumption))only[ZB])
 simp only[Heap.next_push']
 generalize (((H.push (some (.cells true [i64 n]))).push (some (.cells true [x.pv,x.gv,x.qv,i64 s.frame,x.wv,x.uv,i64 s.millis]))).push (some (.cells true [i64 unit]))).push (some (.cells true [.bool out]))=H1 at *
 (try simp(maxSteps:=1000000)(disch:=first|omega|(simp only[Z3];omega)|(simp;done)|assumption|decide|(apply not_not_intro;assumption))only[ZB,g2,ctGr])
 refine zbmy (α:=Gr) rfl (h.grs.keep0 k1) hlen (mayG unit n out) (fun H2 y R k2 hR=>?_) _ fun H2 k2=>?_
 ·have e:∀ R,wp (zfi [.agg (Flat.enc y).toArray,ptr (H.next + 2) 0,ptr H.next 0,ptr (H.next + 3) 0]) R H2→wp (zmm (ovr [] (ovr [(zeb,zfi)] noC)) (.func (.func zeb) #[] #[ptr (H.next + 1 + 1) 0,ptr H.next 0,ptr (H.next + 1 + 1 + 1) 0]) [.agg (Flat.enc y).toArray]) R H2:=fun R h=>h
  exact e _ (zbvg (k2.get g3 (by simp)) (k2.get g1 (by simp)) (k2.get g4 (by simp)) y R hR)
 ·(try simp(maxSteps:=1000000)(disch:=first|omega|(simp only[Z3];omega)|(simp;done)|assumption|decide|(apply not_not_intro;assumption))only[ZB])
  exact hQ _ (k1.trans k2 (by simp))
end Go.AM.Cap
