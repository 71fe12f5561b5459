import Derived.Test.YtjchglndancedaaGreatDoorCfB
import Derived.Test.YtjchglndancedaaGreatDoorAmIn
set_option linter.all false
/- conf: who may use what: binds of units -/
set_option maxHeartbeats 8000000
namespace Go.AM.Cap
open Go.AM Go.Proofs
def ixL (n:Nat) (S:zx) (vs:List V):M Out :=
 zb (za (zu .lss (zd vs 3) (zd vs 2))) fun x9 =>
 zb (zp x9 (ret (.nxt [(zd vs 0),(zd vs 1),(zd vs 2),(zd vs 3)])) (ret (.brk 0 []))) fun o=>nx o fun vs_2 =>
 zb (
 zb (
  zb (za (zr n (zd vs_2 0) (zd vs_2 3))) fun x14 =>
  zb (ldn n x14) fun x15 =>
  zb (znw (ovr [] S) (zd vs_2 1) [x15]) fun x16 =>
  zp x16 (
   ret (.ret [(zd vs_2 3)])
   ) (
   ret (.nxt [(zd vs_2 0),(zd vs_2 1),(zd vs_2 2),(zd vs_2 3)])
   )
  ) fun o=>ret (zv 1 o)
 ) fun o=>nx o fun vs_3 =>
 zb (za (zu .add (zd vs_3 3) (Value.int .i64 1))) fun x18 =>
 ret (.nxt [(zd vs_3 0),(zd vs_3 1),(zd vs_3 2),x18])
def ixF (n:Nat) (S:zx) (x0 x1:V):M V :=
 zb (
  zb (
   zb (za (zw x0)) fun x7 =>
   zb (
    zba zbm (ixL n S) [x0,x1,x7,(Value.int .i64 0)]
    ) fun o=>ret (zv 0 o)
   ) fun o=>nx o fun _=>ret (.ret [(Value.int .i64 (-1))])
  ) fun o=>zbk o fun vs=>ret (zbi [(zd vs 0)])
def ctF (n:Nat) (S:zx) (x0 x1:V):M V :=
 zb (
  zb (ixF n S x0 x1) fun x7 =>
  zb (za (zu .geq x7 (Value.int .i64 0))) fun x8 =>
  ret (.ret [x8])
  ) fun o=>zbk o fun vs=>ret (zbi [(zd vs 0)])
theorem zbvg {α:Type} (p:α→Bool) (l:List α):l.any p=(zhf p l).isSome:=by
 cases h:zhf p l with
 | none =>
  rw[zs2] at h
  simpa using h
 | some i =>
  cases l with
  | nil=>cases h
  | cons x l =>
   obtain⟨h1,h2,_⟩:=z73 (d:=x) h
   simp only[Option.isSome_some,List.any_eq_true]
   exact⟨_,zbh h1,h2⟩
theorem zbuc {α:Type} [Flat α] [Inhabited α] {n:Nat} {S:zx} {f:V} {H:Heap} {v:V} {l:List α} (hs:Flat.size α=n) (h:Sl H v l) (hl:l.length≤1000000000) (p:α→Bool) (hp:∀ (H2:Heap) (x:α) (Q:V→Heap→Prop),Keeps [] H H2→(∀ H',Keeps [] H2 H'→Q (.bool (p x)) H')→wp (znw (ovr [] S) f [.agg (Flat.enc x).toArray]) Q H2)
  (Q:V→Heap→Prop) (hQ:∀ H',Keeps [] H H'→Q (.bool (l.any p)) H'):wp (ctF n S v f) Q H:=by
 have hlen:=h.len
 rw[zbvg] at hQ
 unfold ctF ixF
 (try simp (maxSteps:=999999) (disch:=try exact ZD) only[ZB,hlen])
 refine zbo l.length (by omega) (fun j vs H'=>vs=[v,f,i64 l.length,i64 j]∧Keeps [] H H'∧(∀ i,i < j→p (l.getD i default)=false)) ⟨rfl,Keeps.refl _ _,by omega⟩ ?_
 rintro j vs H1 hj ⟨rfl,hk1,hn⟩
 by_cases hlt:j < l.length
 case neg =>
  have:j=l.length:=by omega
  subst this
  rw[zbd1 hn] at hQ
  have e:decide ((-1:Int)≥0)=false:=by decide
  (try simp (maxSteps:=999999) (disch:=try exact ZD) only[ZB,ixL,e])
  exact hQ _ hk1
 have a1:=(h.keep0 hk1).addr' (n:=n) hs (k := .i64) (i:=j) (by omega) (by omega)
 rw[Int.toNat_natCast] at a1
 have d1:=fun Q=>(h.keep0 hk1).ldn' (Q:=Q) (n:=n) hs hlt default
 (try simp (maxSteps:=999999) (disch:=try exact ZD) only[ZA,zo,zn,zm,zk,zi,zj,zg,ze,ixL,a1,d1])
 refine hp H1 _ _ hk1 fun H2 k2=>?_
 cases hq:p (l.getD j default) with
 | true =>
  rw[zvt hlt hq hn] at hQ
  have e:decide ((j:Int)≥0)=true:=by simp
  (try simp (maxSteps:=999999) (disch:=try exact ZD) only[ZB,e])
  exact hQ _ (hk1.trans k2 (by simp))
 | false =>
  (try simp (maxSteps:=999999) (disch:=try exact ZD) only[ZB])
  refine⟨hlt,rfl,hk1.trans k2 (by simp),fun i hi=>?_⟩
  rcases Nat.lt_or_eq_of_le (Nat.lt_succ_iff.1 hi) with q | rfl
  ·exact hn i q
  ·exact hq
theorem ctGr {S:zx} (x0 x1:V):zbl S [x0,x1]=ctF 3 S x0 x1:=rfl
theorem zb5p {S:zx} (x0 x1:V):zb8 S [x0,x1]=ctF 5 S x0 x1:=rfl
theorem zb2r {H:Heap} {b:Nat} {n:Int} (hg:H.get b=some (.cells true [i64 n])) (x:Gr) (Q:V→Heap→Prop) (hQ:∀ H',Keeps [] H H'→Q (.bool (decide (x.part≥n))) H'):wp (zex [.agg (Flat.enc x).toArray,ptr b 0]) Q H:=by
 show wp (zwm (.agg (Flat.enc x).toArray) (ptr b 0)) Q H
 have hn:=Heap.get_lt hg
 (try simp (maxSteps:=999999) (disch:=try exact ZD) only[ZB,zwm,zxm,hg])
 exact hQ _ (Keeps.push _ _ _)
theorem zb2s {H:Heap} {b:Nat} {n:Int} (hg:H.get b=some (.cells true [i64 n])) (x:Port) (Q:V→Heap→Prop) (hQ:∀ H',Keeps [] H H'→Q (.bool (decide (x.src≥n∨x.dst≥n))) H'):wp (zey [.agg (Flat.enc x).toArray,ptr b 0]) Q H:=by
 show wp (zq8 (.agg (Flat.enc x).toArray) (ptr b 0)) Q H
 have hn:=Heap.get_lt hg
 have q:=hQ _ (Keeps.push _ _ (some (.cells true (Flat.enc x))))
 by_cases h:x.src≥n
 ·(try simp (maxSteps:=999999) (disch:=try exact ZD) only[ZB,zq8,zxn,hg])
  rw[decide_eq_true (.inl h)] at q
  exact q
 ·(try simp (maxSteps:=999999) (disch:=try exact ZD) only[ZB,zq8,zxn,hg])
  have e:decide (x.src≥n∨x.dst≥n)=decide (x.dst≥n):=decide_eq_decide.2 (by omega)
  rw[e] at q
  exact q
def mayG (unit n:Int) (out:Bool) (g:Gr):Bool:=decide (g.part=unit) && (decide (g.point=n) && (g.write || !out))
theorem zb2t {H:Heap} {a b c:Nat} {unit n:Int} {out:Bool} (ha:H.get a=some (.cells true [i64 unit])) (hb:H.get b=some (.cells true [i64 n])) (hc:H.get c=some (.cells true [.bool out])) (x:Gr) (Q:V→Heap→Prop) (hQ:∀ H',Keeps [] H H'→Q (.bool (mayG unit n out x)) H'):wp (zfs [.agg (Flat.enc x).toArray,ptr a 0,ptr b 0,ptr c 0]) Q H:=by
 show wp (zeb (.agg (Flat.enc x).toArray) (ptr a 0) (ptr b 0) (ptr c 0)) Q H
 have na:=Heap.get_lt ha
 have nb:=Heap.get_lt hb
 have nc:=Heap.get_lt hc
 have q:=hQ _ (Keeps.push _ _ (some (.cells true [i64 x.part,i64 x.point,.bool x.write])))
 unfold mayG at q
 obtain⟨pa,po,w⟩:=x
 simp only at q
 by_cases h1:pa=unit
 ·by_cases h2:po=n
  ·rw[decide_eq_true h1,decide_eq_true h2] at q
   cases w
   ·cases out
    ·(try simp (maxSteps:=999999) (disch:=try exact ZD) only[ZB,zeb,zxm,ha,hb,hc,h1,h2])
     simpa[h1,h2] using q
    ·(try simp (maxSteps:=999999) (disch:=try exact ZD) only[ZB,zeb,zxm,ha,hb,hc,h1,h2])
     simpa[h1,h2] using q
   ·(try simp (maxSteps:=999999) (disch:=try exact ZD) only[ZB,zeb,zxm,ha,hb,hc,h1,h2])
    simpa[h1,h2] using q
  ·rw[decide_eq_true h1,decide_eq_false h2] at q
   (try simp (maxSteps:=999999) (disch:=try exact ZD) only[ZB,zeb,zxm,ha,hb,hc,h1])
   simpa[h1] using q
 ·rw[decide_eq_false h1] at q
  (try simp (maxSteps:=999999) (disch:=try exact ZD) only[ZB,zeb,zxm,ha,hb,hc])
  simpa using q
def zbjt (s:Sy) (unit n:Int) (out:Bool):Bool:=s.grs.any (mayG unit n out)
def zbju (s:Sy) (unit n:Int) (out:Bool):Bool:=if n < 0∨n≥s.prs.length then false else if out then decide ((s.prs.getD n.toNat default).src=unit) else decide ((s.prs.getD n.toNat default).dst=unit)
def z00 (s:Sy) (unit:Int) (b:Bd) (out:Bool):Bool:=if b.kind=1 then zbjt s unit b.n out else if b.kind=2 then zbju s unit b.n out else false
theorem zbot {H:Heap} {x:SyV} {s:Sy} (h:SysAt H x s) (n unit:Int) (out:Bool) (Q:V→Heap→Prop) (hQ:∀ H',Keeps [] H H'→Q (.bool (zbjt s unit n out)) H'):wp (zjd [i64 n,.agg (x.cs s).toArray,i64 unit,.bool out]) Q H:=by
 show wp (zsx (i64 n) (.agg (x.cs s).toArray) (i64 unit) (.bool out)) Q H
 have ho:=h.one
 have hlen:s.grs.length≤1000000000:=by have:=h.small;omega
 unfold SyV.cs at ho ⊢
 unfold zsx
 rw[z7,z7]
 refine (zbhb rfl).mpr ?_
 rw[z7]
 refine (zb0 ho).mpr ?_
 rw[z7]
 refine (zbhb rfl).mpr ?_
 rw[z7]
 refine (zbhb rfl).mpr ?_
 have k1:Keeps [] H ((((H.push (some (.cells true [i64 n]))).push (some (.cells true [x.pv,x.gv,x.qv,i64 s.frame,x.wv,x.uv,i64 s.millis]))).push (some (.cells true [i64 unit]))).push (some (.cells true [.bool out]))):=by (repeat (first | exact Keeps.refl _ _ | assumption | apply zbq | refine zb7 ?_ (by simp;omega)))
 have g1:((((H.push (some (.cells true [i64 n]))).push (some (.cells true [x.pv,x.gv,x.qv,i64 s.frame,x.wv,x.uv,i64 s.millis]))).push (some (.cells true [i64 unit]))).push (some (.cells true [.bool out]))).get H.next=some (.cells true [i64 n]):=by (try simp (maxSteps:=999999) (disch:=try exact ZD) only[ZB])
 have g2:((((H.push (some (.cells true [i64 n]))).push (some (.cells true [x.pv,x.gv,x.qv,i64 s.frame,x.wv,x.uv,i64 s.millis]))).push (some (.cells true [i64 unit]))).push (some (.cells true [.bool out]))).get (H.next + 1)=some (.cells true [x.pv,x.gv,x.qv,i64 s.frame,x.wv,x.uv,i64 s.millis]):=by (try simp (maxSteps:=999999) (disch:=try exact ZD) only[ZB])
 have g3:((((H.push (some (.cells true [i64 n]))).push (some (.cells true [x.pv,x.gv,x.qv,i64 s.frame,x.wv,x.uv,i64 s.millis]))).push (some (.cells true [i64 unit]))).push (some (.cells true [.bool out]))).get (H.next + 2)=some (.cells true [i64 unit]):=by (try simp (maxSteps:=999999) (disch:=try exact ZD) only[ZB])
 have g4:((((H.push (some (.cells true [i64 n]))).push (some (.cells true [x.pv,x.gv,x.qv,i64 s.frame,x.wv,x.uv,i64 s.millis]))).push (some (.cells true [i64 unit]))).push (some (.cells true [.bool out]))).get (H.next + 3)=some (.cells true [.bool out]):=by (try simp (maxSteps:=999999) (disch:=try exact ZD) only[ZB])
 simp only[Heap.next_push']
 generalize (((H.push (some (.cells true [i64 n]))).push (some (.cells true [x.pv,x.gv,x.qv,i64 s.frame,x.wv,x.uv,i64 s.millis]))).push (some (.cells true [i64 unit]))).push (some (.cells true [.bool out]))=H1 at *
 (try simp (maxSteps:=999999) (disch:=try exact ZD) only[ZB,g2,ctGr])
 refine zbuc (α:=Gr) rfl (h.grs.keep0 k1) hlen (mayG unit n out) (fun H2 y R k2 hR=>?_) _ fun H2 k2=>?_
 ·have e:∀ R,wp (zfs [.agg (Flat.enc y).toArray,ptr (H.next + 2) 0,ptr H.next 0,ptr (H.next + 3) 0]) R H2→wp (znw (ovr [] (ovr [(zeh,zfs)] noC)) (.func (.func zeh) #[] #[ptr (H.next + 1 + 1) 0,ptr H.next 0,ptr (H.next + 1 + 1 + 1) 0]) [.agg (Flat.enc y).toArray]) R H2:=fun R h=>h
  exact e _ (zb2t (k2.get g3 (by simp)) (k2.get g1 (by simp)) (k2.get g4 (by simp)) y R hR)
 ·(try simp (maxSteps:=999999) (disch:=try exact ZD) only[ZB])
  exact hQ _ (k1.trans k2 (by simp))
end Go.AM.Cap

/- conf: binds of units; exec.Check -/
set_option maxHeartbeats 8000000
namespace Go.AM.Cap
open Go.AM Go.Proofs
theorem z74 {α:Type} [Flat α] {H:Heap} {v:V} {l:List α} (h:Sl H v l):vEq.vEq1 v v=true:=by
 rcases h with⟨rfl,_⟩ | ⟨b,o,u,c,rfl,_⟩ <;> simp[vEq.vEq1]
theorem zbrw:∀ l:List V,(∀ v∈l,vEq.vEq1 v v=true)→vEq.vEqs l l=true
 | [],_=>rfl
 | v :: l,h=>by
  have h1:=h v (by simp)
  have h2:=zbrw l (fun w hw=>h w (by simp[hw]))
  simp[vEq.vEqs,h1,h2]
theorem zbou {H:Heap} {p n:Nat} {cs:List V} {rw_:Bool} (h:H.get p=some (.cells rw_ cs)) (hn:cs.length=n) (hv:∀ v∈cs,vEq.vEq1 v v=true):chk (ldn n (ptr p 0)) H (.agg cs.toArray)=true:=by
 have:wp (ldn n (ptr p 0)) (fun r _=>r = .agg cs.toArray) H:=(zbb h hn).mpr rfl
 obtain⟨r,H',h1,h2⟩:=this
 unfold chk
 rw[h1,h2]
 show vEq.vEqs cs cs=true
 exact zbrw _ hv
theorem SysAt.same {H:Heap} {x:SyV} {s:Sy} (h:SysAt H x s):∀ v∈x.cs s,vEq.vEq1 v v=true:=by
 obtain⟨l,h1,_⟩:=h.uns
 intro v hv
 simp only[SyV.cs,List.mem_cons,List.not_mem_nil,or_false] at hv
 rcases hv with rfl | rfl | rfl | rfl | rfl | rfl | rfl
 ·exact z74 h.pts
 ·exact z74 h.grs
 ·exact z74 h.prs
 ·simp[vEq.vEq1]
 ·exact z74 h.wins
 ·exact z74 h1.out
 ·simp[vEq.vEq1]
def bdV (b:Bd):V:=if b.kind=1 then .iface zqu (i64 b.n) else if b.kind=2 then .iface ztc (i64 b.n) else .iface zv8 (.agg #[])
theorem zbvh (b:Bd):(bdV b).isOne=true:=by unfold bdV;(repeat' split) <;> rfl
theorem zbjv {H:Heap} (b:Bd) (Q:V→Heap→Prop) (hQ:∀ H',Keeps [] H H'→Q (bdV b) H'):wp (zez [.agg (Flat.enc b).toArray]) Q H:=by
 show wp (zq9 (.agg (Flat.enc b).toArray)) Q H
 have q:=hQ _ (Keeps.push _ _ (some (.cells true (Flat.enc b))))
 unfold bdV at q
 by_cases h1:b.kind=1
 ·rw[if_pos h1] at q
  (try simp (maxSteps:=999999) (disch:=try exact ZD) only[ZB,zq9,zxo])
  exact q
 ·rw[if_neg h1] at q
  by_cases h2:b.kind=2
  ·rw[if_pos h2] at q
   (try simp (maxSteps:=999999) (disch:=try exact ZD) only[ZB,zq9,zxo])
   exact q
  ·rw[if_neg h2] at q
   have e:build ([]:List V) []=some (.agg #[]):=rfl
   (try simp (maxSteps:=999999) (disch:=try exact ZD) only[ZB,zq9,zxo,z9g,e])
   exact q
theorem zbud (x:V):invG Tryz.prog (.iface zqu x) "capstan/exec.may" = some (zhj,x):=by kernel_rfl
theorem zbxm (x:V):invG Tryz.prog (.iface ztc x) "capstan/exec.may" = some (zig,x):=by kernel_rfl
theorem zbue (x:V):invG Tryz.prog (.iface zv8 x) "capstan/exec.may" = some (zhl,x):=by kernel_rfl
theorem zbd2 {P:Program} {S:zx} {v x:V} {name:String} {g:Nat} {args:List V} (h:invG P v name=some (g,x)):invM P S v name args=S g (x :: args):=by
 unfold invM;rw[h];rfl
theorem zbjw {g:Nat} {F:List V→M V} {l:List (Nat × (List V→M V))} {S:zx}:ovr ((g,F) :: l) S g=F:=by
 simp only[ovr]
 cases h:Nat.beq g g with
 | true=>rfl
 | false=>rw[Nat.beq_refl] at h;cases h
theorem zbov {f g:Nat} {F:List V→M V} {l:List (Nat × (List V→M V))} {S:zx} (h:Nat.beq f g=false):ovr ((g,F) :: l) S f=ovr l S f:=by
 simp only[ovr,h];rfl
theorem zbrx {H:Heap} {x:SyV} {s:Sy} (h:SysAt H x s) (n unit:Int) (out:Bool) (Q:V→Heap→Prop) (hQ:∀ H',Keeps [] H H'→Q (.bool (zbju s unit n out)) H'):wp (zks [i64 n,.agg (x.cs s).toArray,i64 unit,.bool out]) Q H:=by
 show wp (zue (i64 n) (.agg (x.cs s).toArray) (i64 unit) (.bool out)) Q H
 have ho:=h.one
 unfold SyV.cs at ho ⊢
 have hlen:=h.prs.len
 have k1:Keeps [] H (H.push (some (.cells true [x.pv,x.gv,x.qv,i64 s.frame,x.wv,x.uv,i64 s.millis]))):=Keeps.push _ _ _
 have g1:(H.push (some (.cells true [x.pv,x.gv,x.qv,i64 s.frame,x.wv,x.uv,i64 s.millis]))).get H.next=some (.cells true [x.pv,x.gv,x.qv,i64 s.frame,x.wv,x.uv,i64 s.millis]):=Heap.get_push_self _ _
 have hp1:=h.prs.keep0 k1
 have q:=hQ _ k1
 unfold zue
 rw[z7,z7]
 refine (zb0 ho).mpr ?_
 generalize H.push (some (.cells true [x.pv,x.gv,x.qv,i64 s.frame,x.wv,x.uv,i64 s.millis]))=H1 at *
 by_cases h1:n < 0∨n≥s.prs.length
 ·rw[zbju,if_pos h1] at q
  by_cases h2:n < 0
  ·(try simp (maxSteps:=999999) (disch:=try exact ZD) only[ZB,g1])
   exact q
  ·(try simp (maxSteps:=999999) (disch:=try exact ZD) only[ZB,g1,hlen])
   exact q
 ·rw[zbju,if_neg h1] at q
  have a1:=hp1.addr' (n:=5) rfl (k := .i64) (i:=n) (by omega) (by omega)
  have hlt:n.toNat < s.prs.length:=by omega
  have c1:=hp1.cell' (n:=5) rfl (off:=1) hlt (by omega) default
  have c2:=hp1.cell' (n:=5) rfl (off:=2) hlt (by omega) default
  rw[zbd] at c1 c2
  have e1:(Flat.enc (s.prs.getD n.toNat default))[1]? = some (i64 (s.prs.getD n.toNat default).src):=rfl
  have e2:(Flat.enc (s.prs.getD n.toNat default))[2]? = some (i64 (s.prs.getD n.toNat default).dst):=rfl
  rw[e1] at c1
  rw[e2] at c2
  cases out
  ·(try simp (maxSteps:=999999) (disch:=try exact ZD) only[ZB,g1,hlen,zsz,zsy,a1,c1,c2])
   simpa using q
  ·(try simp (maxSteps:=999999) (disch:=try exact ZD) only[ZB,g1,hlen,zsz,zsy,a1,c1,c2])
   simpa using q
theorem zbow {H:Heap} {x:SyV} {s:Sy} (h:SysAt H x s) (unit:Int) (out:Bool) (Q:V→Heap→Prop) (hQ:∀ H',Keeps [] H H'→Q (.bool false) H'):wp (zje [.agg #[],.agg (x.cs s).toArray,i64 unit,.bool out]) Q H:=by
 show wp (zs0 (.agg #[]) (.agg (x.cs s).toArray) (i64 unit) (.bool out)) Q H
 have ho:=h.one
 have e:∀ Q,wp (zdc (.agg #[])) Q H↔Q (ptr H.next 0) (H.push (some (.cells true []))):=fun Q=>zb0 (vs:=[]) rfl
 unfold zs0
 rw[z7,z7,e]
 rw[z7]
 refine (zb0 ho).mpr ?_
 (try simp (maxSteps:=999999) (disch:=try exact ZD) only[ZB])
 exact hQ _ (zbq (Keeps.push _ _ _))
theorem zbxn {H:Heap} {v:V} {l:List Bd} (h:Sl H v l) (hl:l.length≤1000000000) (b:Bd) (Q:V→Heap→Prop) (hQ:∀ H',Keeps [] H H'→Q (i64 (zkt (zhf (fun x=>decide (b=x)) l))) H'):wp (zc0 [v,.agg (Flat.enc b).toArray]) Q H:=by
 show wp (zea v (.agg (Flat.enc b).toArray)) Q H
 have hlen:=h.len
 have k1:Keeps [] H (H.push (some (.cells true (Flat.enc b)))):=Keeps.push _ _ _
 have g1:(H.push (some (.cells true (Flat.enc b)))).get H.next=some (.cells true (Flat.enc b)):=Heap.get_push_self _ _
 unfold zea
 rw[z7,z7]
 refine (zb0 (Flat.one b)).mpr ?_
 generalize H.push (some (.cells true (Flat.enc b)))=H1 at *
 have d0:=fun Q=>zbb (n:=2) (Q:=Q) g1 rfl
 (try simp (maxSteps:=999999) (disch:=try exact ZD) only[ZB,hlen])
 refine zbo l.length (by omega) (fun j vs H'=>vs=[v,ptr H.next 0,i64 l.length,i64 j]∧H'=H1∧(∀ i,i < j→decide (b=l.getD i default)=false)) ⟨rfl,rfl,by omega⟩ ?_
 rintro j vs H2 hj ⟨rfl,rfl,hn⟩
 by_cases hlt:j < l.length
 case neg =>
  have:j=l.length:=by omega
  subst this
  have e:zkt (zhf (fun x=>decide (b=x)) l) = -1:=by rw[zbd1 hn];rfl
  rw[e] at hQ
  (try simp (maxSteps:=999999) (disch:=try exact ZD) only[ZB,zcw,zha])
  exact hQ _ k1
 have h2:=h.keep0 k1
 have a1:=h2.addr' (n:=2) rfl (k := .i64) (i:=j) (by omega) (by omega)
 rw[Int.toNat_natCast] at a1
 have d1:=fun Q=>h2.ldn' (Q:=Q) (n:=2) rfl hlt default
 have e2:zer false (zpt [.i,.i] (.agg (Flat.enc b).toArray) (.agg (Flat.enc (l.getD j default)).toArray))=some (.bool (decide (b=l.getD j default))):=by
  generalize l.getD j default=y
  obtain⟨b1,b2⟩:=b
  obtain⟨y1,y2⟩:=y
  simp only[zxo,zpt,zqk,eqK,if_true,zbhc,zer,Bd.mk.injEq]
  by_cases q1:b1=y1 <;> by_cases q2:b2=y2 <;> simp[q1,q2]
 by_cases hq:b=l.getD j default
 ·have e:zkt (zhf (fun x=>decide (b=x)) l)=j:=by rw[zvt (d:=default) hlt (decide_eq_true hq) hn];rfl
  rw[e] at hQ
  rw[decide_eq_true hq] at e2
  (try simp (maxSteps:=999999) (disch:=try exact ZD) only[ZA,zo,zn,zm,zk,zi,zj,zg,ze,zcw,zd4,a1,d0,d1,e2])
  exact hQ _ k1
 ·rw[decide_eq_false hq] at e2
  (try simp (maxSteps:=999999) (disch:=try exact ZD) only[ZA,zo,zn,zm,zk,zi,zj,zg,ze,zcw,zd4,a1,d0,d1,e2,zg9])
  refine⟨hlt,rfl,fun i hi=>?_⟩
  rcases Nat.lt_or_eq_of_le (Nat.lt_succ_iff.1 hi) with q | rfl
  ·exact hn i q
  ·exact decide_eq_false hq
theorem zbox {H:Heap} {v:V} {l:List Bd} (h:Sl H v l) (hl:l.length≤1000000000) (b:Bd) (Q:V→Heap→Prop) (hQ:∀ H',Keeps [] H H'→Q (.bool (decide (b∈l))) H'):wp (zbs [v,.agg (Flat.enc b).toArray]) Q H:=by
 show wp (zdx v (.agg (Flat.enc b).toArray)) Q H
 have k1:Keeps [] H (H.push (some (.cells true (Flat.enc b)))):=Keeps.push _ _ _
 have g1:(H.push (some (.cells true (Flat.enc b)))).get H.next=some (.cells true (Flat.enc b)):=Heap.get_push_self _ _
 unfold zdx
 rw[z7,z7]
 refine (zb0 (Flat.one b)).mpr ?_
 generalize H.push (some (.cells true (Flat.enc b)))=H1 at *
 have d0:=fun Q=>zbb (n:=2) (Q:=Q) g1 rfl
 rw[z7,d0,z7]
 refine zbxn (h.keep0 k1) hl b _ fun H2 k2=>?_
 have q:=hQ _ (k1.trans k2 (by simp))
 cases hf:zhf (fun x=>decide (b=x)) l with
 | none =>
  have:¬ b∈l:=fun q=>by have:=zs2.1 hf b q;simp at this
  rw[decide_eq_false this] at q
  have e:decide (((-1:Int))≥0)=false:=by decide
  (try simp (maxSteps:=999999) (disch:=try exact ZD) only[ZB,zkt,e])
  exact q
 | some i =>
  obtain⟨hi,hp,_⟩:=z73 (d:=default) hf
  have:b∈l:=by
   have e:b=l.getD i default:=by simpa using hp
   rw[e];exact zbh hi
  rw[decide_eq_true this] at q
  have e:decide ((i:Int)≥0)=true:=by simp
  (try simp (maxSteps:=999999) (disch:=try exact ZD) only[ZB,zkt,e])
  exact q
theorem zbvi {α:Type} [Flat α] {H:Heap} {v:V} {l:List α} {n:Nat} (hs:Flat.size α=n) (h:Sl H v l) {j:Nat} (hj:j < l.length):∃ w,zh6 n v none (some (i64 (j:Int)))=some w∧Sl H w (l.take j):=by
 subst hs
 rcases h with⟨rfl,rfl⟩ | ⟨b,o,u,c,rfl,hc,hb,hl,hu⟩
 ·simp at hj
 ·have hj':(l.take j).length=j:=by simp;omega
  refine⟨slc b o u j c,?_,.inr ⟨b,o,u,c,by rw[hj'],by omega,hb,?_,?_⟩⟩
  ·have hb0:zd1 0 j none=some 0:=rfl
   have e1:zd1 l.length c (some (i64 (j:Int)))=some j:=by simp[zd1];omega
   simp only[zh6,e1,hb0]
   have hu2:u=Flat.size α∨u=0:=hu.symm
   rw[if_pos hu2]
   simp[zts]
  ·by_cases h0:j=0
   ·left;subst h0;rfl
   ·right
    rcases hl with rfl | ⟨rw_,cs,hg,q1,q2⟩
    ·simp at hj
    ·refine⟨rw_,cs,hg,?_,?_⟩
     ·rw[hj']
      have:j * Flat.size α≤l.length * Flat.size α:=Nat.mul_le_mul_right _ (by omega)
      omega
     ·rw[hj',← zbe0,← q2,List.take_take,Nat.min_eq_left (Nat.mul_le_mul_right _ (by omega))]
  ·exact hu
end Go.AM.Cap
