import Derived.Test.YtjchglndancedaaGreatDoorCgM
import Derived.Test.YtjchglndancedaaGreatDoorAmIn
set_option linter.all false
/- conf, the document: what a bind may -/
set_option maxHeartbeats 16000000
namespace Go.AM.Cap
open Go.AM Go.Proofs
variable {H:Heap}
def zbuw (s:Sy) (unit n:Int) (out:Bool):Bool:=if n < 0∨n≥s.pts.length then false else zbjt s unit n out
def zbbt (s:Sy) (unit:Int) (b:Bd) (out:Bool):Bool:=if b.kind=1 then zbuw s unit b.n out else if b.kind=2 then zbju s unit b.n out else false
theorem zb3x {x:SyV} {s:Sy} (h:SysAt H x s) (b:Bd) (unit:Int) (out:Bool) (Q:V→Heap→Prop) (hQ:∀ H',Keeps [] H H'→Q (.bool (zbbt s unit b out)) H'):wp (zyk [.agg (x.cs s).toArray,i64 unit,.agg (Flat.enc b).toArray,.bool out]) Q H:=by
 show wp (z6g (.agg (x.cs s).toArray) (i64 unit) (.agg (Flat.enc b).toArray) (.bool out)) Q H
 have ho:=h.one
 have hsm:=h.small
 obtain⟨kd,n⟩:=b
 unfold z6g
 rw[z7,z7]
 refine (zb0 ho).mpr ?_
 have k1:Keeps [] H (H.push (some (.cells true (x.cs s)))):=Keeps.push _ _ _
 have g1:(H.push (some (.cells true (x.cs s)))).get H.next=some (.cells true (x.cs s)):=Heap.get_push_self _ _
 generalize H.next=P at *
 generalize H.push (some (.cells true (x.cs s)))=H1 at *
 rw[z7]
 refine (zb0 (Flat.one (⟨kd,n⟩:Bd))).mpr ?_
 have k2:Keeps [] H1 (H1.push (some (.cells true (Flat.enc (⟨kd,n⟩:Bd))))):=Keeps.push _ _ _
 have gB:(H1.push (some (.cells true (Flat.enc (⟨kd,n⟩:Bd))))).get H1.next=some (.cells true [i64 kd,i64 n]):=Heap.get_push_self _ _
 have gP:=k2.get g1 (by simp)
 generalize H1.next=B at *
 generalize H1.push (some (.cells true (Flat.enc (⟨kd,n⟩:Bd))))=H2 at *
 have k02:=k1.trans k2 (fun _ _ h=>h)
 have h2:=h.keep0 k02
 have lp:=h2.pts.len
 have lg:=h2.grs.len
 have lq:=h2.prs.len
 have c0:(x.cs s)[0]? = some x.pv:=rfl
 have c1:(x.cs s)[1]? = some x.gv:=rfl
 have c2:(x.cs s)[2]? = some x.qv:=rfl
 have q0:=hQ H2 k02
 unfold zbbt at q0 hQ
 simp only at q0 hQ
 by_cases d2:kd=2
 ·have e2:decide (kd=2)=true:=decide_eq_true d2
  rw[if_neg (by omega),if_pos d2] at q0
  unfold zbju at q0
  by_cases n1:n < 0
  ·rw[if_pos (.inl n1)] at q0
   have f1:decide (n < 0)=true:=decide_eq_true n1
   (try simp (maxSteps:=999999) (disch:=try exact ZD) only[ZB,gB,e2,f1])
   exact q0
  have f1:decide (n < 0)=false:=decide_eq_false n1
  by_cases n2:n≥s.prs.length
  ·rw[if_pos (.inr n2)] at q0
   have f2:decide (n≥(s.prs.length:Int))=true:=decide_eq_true n2
   (try simp (maxSteps:=999999) (disch:=try exact ZD) only[ZB,gB,gP,c2,lq,e2,f1,f2])
   exact q0
  have f2:decide (n≥(s.prs.length:Int))=false:=decide_eq_false n2
  rw[if_neg (by omega)] at q0
  obtain⟨m,rfl⟩:∃ m:Nat,n=m:=⟨n.toNat,by omega⟩
  rw[Int.toNat_natCast] at q0
  have hm:m < s.prs.length:=by omega
  have a1:=h2.prs.addr' (n:=5) rfl (k := .i64) (i:=(m:Int)) (by omega) (by omega)
  rw[Int.toNat_natCast] at a1
  have s1:=h2.prs.cell' (n:=5) rfl (off:=1) hm (by omega) default
  have s2:=h2.prs.cell' (n:=5) rfl (off:=2) hm (by omega) default
  rw[zbd] at s1 s2
  have t1:(Flat.enc (s.prs.getD m default))[1]? = some (i64 (s.prs.getD m default).src):=rfl
  have t2:(Flat.enc (s.prs.getD m default))[2]? = some (i64 (s.prs.getD m default).dst):=rfl
  rw[t1] at s1
  rw[t2] at s2
  cases out with
  | true =>
   rw[if_pos rfl] at q0
   cases hd:decide ((s.prs.getD m default).src=unit) with
   | true =>
    rw[hd] at q0
    (try simp (maxSteps:=999999) (disch:=try exact ZD) only[ZB,gB,gP,c2,lq,e2,f1,f2,zrv,a1,s1,s2,hd])
    exact q0
   | false =>
    rw[hd] at q0
    (try simp (maxSteps:=999999) (disch:=try exact ZD) only[ZB,gB,gP,c2,lq,e2,f1,f2,zrv,a1,s1,s2,hd])
    exact q0
  | false =>
   rw[if_neg (by simp)] at q0
   cases hd:decide ((s.prs.getD m default).dst=unit) with
   | true =>
    rw[hd] at q0
    (try simp (maxSteps:=999999) (disch:=try exact ZD) only[ZB,gB,gP,c2,lq,e2,f1,f2,zrv,a1,s1,s2,hd])
    exact q0
   | false =>
    rw[hd] at q0
    (try simp (maxSteps:=999999) (disch:=try exact ZD) only[ZB,gB,gP,c2,lq,e2,f1,f2,zrv,a1,s1,s2,hd])
    exact q0
 have e2:decide (kd=2)=false:=decide_eq_false d2
 by_cases d1:kd=1
 case neg =>
  have e1:decide (kd≠1)=true:=decide_eq_true d1
  rw[if_neg d1,if_neg d2] at q0
  (try simp (maxSteps:=999999) (disch:=try exact ZD) only[ZB,gB,e2,zrw,e1])
  exact q0
 have e1:decide (kd≠1)=false:=decide_eq_false (fun q=>q d1)
 rw[if_pos d1] at q0 hQ
 unfold zbuw at q0 hQ
 by_cases n1:n < 0
 ·rw[if_pos (.inl n1)] at q0
  have f1:decide (n < 0)=true:=decide_eq_true n1
  (try simp (maxSteps:=999999) (disch:=try exact ZD) only[ZB,gB,e2,zrw,e1,f1])
  exact q0
 have f1:decide (n < 0)=false:=decide_eq_false n1
 by_cases n2:n≥s.pts.length
 ·rw[if_pos (.inr n2)] at q0
  have f2:decide (n≥(s.pts.length:Int))=true:=decide_eq_true n2
  (try simp (maxSteps:=999999) (disch:=try exact ZD) only[ZB,gB,gP,c0,lp,e2,zrw,e1,f1,f2])
  exact q0
 have f2:decide (n≥(s.pts.length:Int))=false:=decide_eq_false n2
 rw[if_neg (by omega)] at hQ
 clear q0
 (try simp (maxSteps:=999999) (disch:=try exact ZD) only[ZB,gB,gP,c0,lp,e2,zrw,e1,f1,f2,zbdg])
 refine zbo s.grs.length (by omega) (fun j vs H'=>vs=[i64 unit,.bool out,ptr P 0,ptr B 0,i64 j]∧Keeps [] H2 H'∧(s.grs.take j).any (mayG unit n out)=false) ⟨rfl,Keeps.refl _ _,rfl⟩ ?_
 rintro j vs H3 hj ⟨rfl,k3,ha⟩
 have g3:=k3.get gP (by simp)
 have b3:=k3.get gB (by simp)
 have k03:=k02.trans k3 (fun _ _ h=>h)
 have h3:=h.keep0 k03
 have lg3:=h3.grs.len
 by_cases hlt:j < s.grs.length
 case neg =>
  have:j=s.grs.length:=by omega
  subst this
  rw[List.take_length] at ha
  have q:=hQ H3 k03
  rw[zbjt,ha] at q
  (try simp (maxSteps:=999999) (disch:=try exact ZD) only[ZB,zj5,zbdf,g3,c1,lg3])
  exact q
 have a1:=h3.grs.addr' (n:=3) rfl (k := .i64) (i:=(j:Int)) (by omega) (by omega)
 rw[Int.toNat_natCast] at a1
 have d3:=fun Q=>h3.grs.ldn' (Q:=Q) (n:=3) rfl hlt default
 have htk:s.grs.take (j + 1)=s.grs.take j ++ [s.grs.getD j default]:=by
  rw[List.getD_eq_getElem?_getD,List.getElem?_eq_getElem hlt];exact List.take_succ_eq_append_getElem hlt
 have hmem:s.grs.getD j default∈s.grs:=zbh hlt
 generalize s.grs.getD j default=g at *
 obtain⟨pa,po,w⟩:=g
 have eg:Flat.enc (⟨pa,po,w⟩:Gr)=[i64 pa,i64 po,.bool w]:=rfl
 have kp:Keeps [] H2 (H3.push (some (.cells true [i64 pa,i64 po,.bool w]))):=zbq k3
 have gn:(H3.push (some (.cells true [i64 pa,i64 po,.bool w]))).get B=some (.cells true [i64 kd,i64 n]):=by rw[Heap.get_push_lt (Heap.get_lt b3)];exact b3
 have hmg:mayG unit n out ⟨pa,po,w⟩=(decide (pa=unit) && (decide (po=n) && (w || !out))):=rfl
 cases hm:mayG unit n out ⟨pa,po,w⟩ with
 | true =>
  have q:=hQ _ (k02.trans kp (fun _ _ h=>h))
  have:zbjt s unit n out=true:=List.any_eq_true.2 ⟨_,hmem,hm⟩
  rw[this] at q
  rw[hm] at hmg
  have p1:decide (pa=unit)=true:=by cases hh:decide (pa=unit) with | true=>rfl | false=>rw[hh] at hmg;cases hmg
  have p2:decide (po=n)=true:=by cases hh:decide (po=n) with | true=>rfl | false=>rw[p1,hh] at hmg;cases hmg
  rw[p1,p2] at hmg
  cases w with
  | true =>
   (try simp (maxSteps:=999999) (disch:=try exact ZD) only[ZA,zo,zn,zm,zk,zi,zj,zg,ze,zj5,znr,g3,c1,lg3,a1,d3,eg,p1,p2,gn,b3])
   exact q
  | false =>
   cases out with
   | true=>cases hmg
   | false =>
    (try simp (maxSteps:=999999) (disch:=try exact ZD) only[ZA,zo,zn,zm,zk,zi,zj,zg,ze,zj5,znr,g3,c1,lg3,a1,d3,eg,p1,p2,gn,b3])
    exact q
 | false =>
  have fin:∀ {H'},Keeps [] H2 H'→j < s.grs.length∧[i64 unit,.bool out,ptr P 0,ptr B 0,i64 ((j:Int) + 1)]=[i64 unit,.bool out,ptr P 0,ptr B 0,i64 ((j + 1:Nat):Int)]∧Keeps [] H2 H'∧(s.grs.take (j + 1)).any (mayG unit n out)=false:=fun {H'} k=>⟨hlt,rfl,k,by rw[htk,List.any_append,ha];simp[hm]⟩
  rw[hm] at hmg
  cases p1:decide (pa=unit) with
  | false =>
   (try simp (maxSteps:=999999) (disch:=try exact ZD) only[ZA,zo,zn,zm,zk,zi,zj,zg,ze,zj5,znr,zvj,g3,c1,lg3,a1,d3,eg,p1,gn,b3])
   exact fin kp
  | true =>
   cases p2:decide (po=n) with
   | false =>
    (try simp (maxSteps:=999999) (disch:=try exact ZD) only[ZA,zo,zn,zm,zk,zi,zj,zg,ze,zj5,znr,zvj,g3,c1,lg3,a1,d3,eg,p1,p2,gn,b3])
    exact fin kp
   | true =>
    rw[p1,p2] at hmg
    cases w with
    | true=>cases hmg
    | false =>
     cases out with
     | false=>cases hmg
     | true =>
      (try simp (maxSteps:=999999) (disch:=try exact ZD) only[ZA,zo,zn,zm,zk,zi,zj,zg,ze,zj5,znr,zvj,g3,c1,lg3,a1,d3,eg,p1,p2,gn,b3])
      exact fin kp
end Go.AM.Cap

/- conf, the document: the binds of a unit -/
set_option maxHeartbeats 16000000
namespace Go.AM.Cap
open Go.AM Go.Proofs
variable {H:Heap}
def zr9 (s:Sy) (unit:Int) (out:Bool):List Bd→List Bd→Bool
 | _,[]=>true
 | seen,b :: bs=>if zbbt s unit b out=false∨b∈seen then false else zr9 s unit out (seen ++ [b]) bs
def zbfv (s:Sy) (unit:Int) (l:List Bd) (out:Bool):Bool:=if l.length > 32 then false else zr9 s unit out [] l
theorem zbm3 {s:Sy} (h:∀ unit b out,zbbt s unit b out=z00 s unit b out) (unit:Int) (out:Bool):∀ (l seen:List Bd),zr9 s unit out seen l=zr4 s unit out seen l
 | [],_=>rfl
 | b :: l,seen=>by rw[zr9,zr4,h,zbm3 h unit out l]
theorem zb6g (p q:Bd):zer false (zpt [.i,.i] (.agg (Flat.enc p).toArray) (.agg (Flat.enc q).toArray))=some (.bool (decide (p=q))):=by
 obtain⟨a,b⟩:=p
 obtain⟨c,d⟩:=q
 by_cases h1:a=c
 ·by_cases h2:b=d
  ·subst h1;subst h2;simp[zxo,zpt,zqk,eqK,zer]
  ·have e2:(b == d)=false:=beq_eq_false_iff_ne.2 h2
   simp[zxo,zpt,zqk,eqK,zer,h1,h2,e2]
 ·have e1:(a == c)=false:=beq_eq_false_iff_ne.2 h1
  simp[zxo,zpt,zqk,eqK,zer,h1,e1]
theorem zbx7 {a0 a2 a3 lv:V} {l:List Bd} (h:Sl H lv l) (hl:l.length≤100) (j:Nat) (hj:j < l.length) (Q:Out→Heap→Prop) (hin:l.getD j default∈l.take j→Q (.ret [.bool false]) H) (hno:l.getD j default ∉ l.take j→Q (.brk 2 [a0,lv,a2,a3,i64 j]) H) :
  wp (zba zbm zmt [a0,lv,a2,a3,i64 j,i64 0]) Q H:=by
 refine zbo j (by omega) (fun k vs H'=>vs=[a0,lv,a2,a3,i64 j,i64 k]∧H'=H∧∀ i,i < k→l.getD i default≠l.getD j default) ⟨rfl,rfl,by omega⟩ ?_
 rintro k vs H1 hk ⟨rfl,rfl,hn⟩
 by_cases hlt:k < j
 case neg =>
  have:k=j:=by omega
  subst this
  (try simp (maxSteps:=999999) (disch:=try exact ZD) only[ZB,zmt])
  refine hno fun hm=>?_
  obtain⟨i,hi,he⟩:=List.mem_iff_getElem.1 hm
  rw[List.length_take] at hi
  refine hn i (by omega) ?_
  rw[List.getElem_take] at he
  rw[← he,List.getD_eq_getElem?_getD,List.getElem?_eq_getElem (by omega)];rfl
 have a1:=h.addr' (n:=2) rfl (k := .i64) (i:=(k:Int)) (by omega) (by omega)
 have a2':=h.addr' (n:=2) rfl (k := .i64) (i:=(j:Int)) (by omega) (by omega)
 rw[Int.toNat_natCast] at a1 a2'
 have d1:=fun Q=>h.ldn' (Q:=Q) (n:=2) rfl (i:=k) (by omega) default
 have d2:=fun Q=>h.ldn' (Q:=Q) (n:=2) rfl hj default
 have ee:=zb6g (l.getD k default) (l.getD j default)
 by_cases c:l.getD k default=l.getD j default
 ·rw[decide_eq_true c] at ee
  (try simp (maxSteps:=999999) (disch:=try exact ZD) only[ZA,zo,zn,zm,zk,zi,zj,zg,ze,zmt,zw7,a1,a2',d1,d2,ee])
  refine hin ?_
  rw[← c,List.getD_eq_getElem?_getD,List.getElem?_eq_getElem (by omega)]
  exact List.mem_take_iff_getElem.2 ⟨k,by omega,rfl⟩
 ·rw[decide_eq_false c] at ee
  (try simp (maxSteps:=999999) (disch:=try exact ZD) only[ZA,zo,zn,zm,zk,zi,zj,zg,ze,zmt,zw7,z6h,a1,a2',d1,d2,ee])
  refine⟨hlt,rfl,fun i hi=>?_⟩
  rcases Nat.lt_or_eq_of_le (Nat.lt_succ_iff.1 hi) with q | rfl
  ·exact hn i q
  ·exact c
theorem zbm4 {x:SyV} {s:Sy} (h:SysAt H x s) {lv:V} {l:List Bd} (hl:Sl H lv l) (unit:Int) (out:Bool) (Q:V→Heap→Prop) (hQ:∀ H',Keeps [] H H'→Q (.bool (zbfv s unit l out)) H'):wp (zoz [.agg (x.cs s).toArray,i64 unit,lv,.bool out]) Q H:=by
 show wp (zzw (.agg (x.cs s).toArray) (i64 unit) lv (.bool out)) Q H
 have ho:=h.one
 have hlen:=hl.len
 unfold zzw
 rw[z7,z7]
 refine (zb0 ho).mpr ?_
 have k1:Keeps [] H (H.push (some (.cells true (x.cs s)))):=Keeps.push _ _ _
 have g1:(H.push (some (.cells true (x.cs s)))).get H.next=some (.cells true (x.cs s)):=Heap.get_push_self _ _
 generalize H.next=P at *
 generalize H.push (some (.cells true (x.cs s)))=H1 at *
 by_cases c1:l.length > 32
 ·have q:=hQ H1 k1
  rw[zbfv,if_pos c1] at q
  have e1:decide ((l.length:Int) > 32)=true:=decide_eq_true (by omega)
  (try simp (maxSteps:=999999) (disch:=try exact ZD) only[ZB,hlen,e1])
  exact q
 have e1:decide ((l.length:Int) > 32)=false:=decide_eq_false (by omega)
 have hb:zbfv s unit l out=zr9 s unit out [] l:=by rw[zbfv,if_neg c1]
 (try simp (maxSteps:=999999) (disch:=try exact ZD) only[ZB,hlen,e1,z6m])
 refine zbo l.length (by omega) (fun j vs H'=>vs=[i64 unit,lv,.bool out,ptr P 0,i64 j]∧Keeps [] H1 H'∧zr9 s unit out (l.take j) (l.drop j)=zr9 s unit out [] l) ⟨rfl,Keeps.refl _ _,rfl⟩ ?_
 rintro j vs H2 hj ⟨rfl,k2,hgo⟩
 have g2:=k2.get g1 (by simp)
 have k02:=k1.trans k2 (fun _ _ h=>h)
 have hl2:=hl.keep0 k02
 have hlen2:=hl2.len
 by_cases hlt:j < l.length
 case neg =>
  have:j=l.length:=by omega
  subst this
  rw[List.drop_length,zr9] at hgo
  have q:=hQ H2 k02
  rw[hb,← hgo] at q
  (try simp (maxSteps:=999999) (disch:=try exact ZD) only[ZB,zw8,z6l,hlen2])
  exact q
 rw[zbaa l j default hlt,zr9] at hgo
 have h7:(x.cs s).length=7:=rfl
 have d7:=fun Q=>zbb (n:=7) (Q:=Q) g2 h7
 have a1:=hl2.addr' (n:=2) rfl (k := .i64) (i:=(j:Int)) (by omega) (by omega)
 rw[Int.toNat_natCast] at a1
 have d1:=fun Q=>hl2.ldn' (Q:=Q) (n:=2) rfl hlt default
 (try simp (maxSteps:=999999) (disch:=try exact ZD) only[ZA,zo,zn,zm,zk,zi,zj,zg,ze,zw8,z6k,hlen2,d7,a1,d1])
 refine zb3x (h.keep0 k02) (l.getD j default) unit out _ fun H3 k3=>?_
 have k03:=k02.trans k3 (fun _ _ h=>h)
 have k13:=k2.trans k3 (fun _ _ h=>h)
 cases hm:zbbt s unit (l.getD j default) out with
 | false =>
  rw[if_pos (.inl hm)] at hgo
  have q:=hQ H3 k03
  rw[hb,← hgo] at q
  (try simp (maxSteps:=999999) (disch:=try exact ZD) only[ZB])
  exact q
 | true =>
  (try simp (maxSteps:=999999) (disch:=try exact ZD) only[ZB,z6i])
  refine zbx7 (hl.keep0 k03) (by omega) j hlt _ (fun hin=>?_) fun hno=>?_
  ·rw[if_pos (.inr hin)] at hgo
   have q:=hQ H3 k03
   rw[hb,← hgo] at q
   (try simp (maxSteps:=999999) (disch:=try exact ZD) only[ZB])
   exact q
  ·rw[if_neg (by rw[hm];rintro (q | q);cases q;exact hno q)] at hgo
   (try simp (maxSteps:=999999) (disch:=try exact ZD) only[ZB,z6j])
   refine⟨hlt,rfl,k13,?_⟩
   have htk:l.take (j + 1)=l.take j ++ [l.getD j default]:=by
    rw[List.getD_eq_getElem?_getD,List.getElem?_eq_getElem hlt];exact List.take_succ_eq_append_getElem hlt
   rw[htk];exact hgo
end Go.AM.Cap

/- conf, the document: what a bind may, where the grants are of points that are there -/
set_option maxHeartbeats 16000000
namespace Go.AM.Cap
open Go.AM Go.Proofs
theorem zb7w {s:Sy} (h:(chkB s.pts s.grs).2=0) (unit:Int) (b:Bd) (out:Bool):zbbt s unit b out=z00 s unit b out:=by
 unfold zbbt z00
 by_cases h1:b.kind=1
 ·rw[if_pos h1,if_pos h1,zbuw]
  by_cases h2:b.n < 0∨b.n≥s.pts.length
  ·rw[if_pos h2]
   cases hp:zbjt s unit b.n out with
   | false=>rfl
   | true =>
    obtain⟨g,hg,hm⟩:=List.any_eq_true.1 hp
    have:=((zqc h).2.2 g hg).2
    unfold mayG at hm
    rw[Bool.and_eq_true,Bool.and_eq_true] at hm
    have he:=of_decide_eq_true hm.2.1
    omega
  ·rw[if_neg h2]
 ·rw[if_neg h1,if_neg h1]
theorem zbv6 {s:Sy} (h:(chkB s.pts s.grs).2=0) (unit:Int) (l:List Bd) (out:Bool):zbfv s unit l out=zlg s unit l out:=by
 unfold zbfv zlg
 rw[zbm3 (fun u b o=>zb7w h u b o)]
end Go.AM.Cap
