import Derived.Test.YtjchglndancedaaGreatDoorCgA
import Derived.Test.YtjchglndancedaaGreatDoorAmOpenF
set_option linter.all false
/- conf, the document: numbers, places of words -/
set_option maxHeartbeats 16000000
namespace Go.AM.Cap
open Go.AM Go.Proofs
variable {H0 H:Heap}
theorem z9t (n:Nat) (b:BitVec 8) (l:List (BitVec 8)):zr6 n (b :: l)=zr6 (n * 10 + (b.toNat - 48)) l:=by
 conv=>lhs;unfold zr6
theorem zbkt (n:Nat):zr6 n []=n:=rfl
theorem zb0k (l:List (BitVec 8)) (b:BitVec 8):∀ n:Nat,zr6 n (l ++ [b])=zr6 n l * 10 + (b.toNat - 48):=by
 induction l with
 | nil=>intro n;rw[List.nil_append,z9t,zbkt,zbkt]
 | cons c l ih=>intro n;rw[List.cons_append,z9t,z9t n c l,ih]
theorem zb20 (l:List (BitVec 8)):∀ n:Nat,l.all zng=true→zr6 n l + 1≤(n + 1) * 10 ^ l.length:=by
 induction l with
 | nil=>intro n _;rw[zbkt,List.length_nil,Nat.pow_zero,Nat.mul_one];exact Nat.le_refl _
 | cons b l ih =>
  intro n h
  rw[List.all_cons,Bool.and_eq_true] at h
  have h1:48≤b.toNat∧b.toNat≤57:=by
   have:=h.1
   unfold zng at this
   exact of_decide_eq_true this
  have ih:=ih (n * 10 + (b.toNat - 48)) h.2
  rw[z9t,List.length_cons,Nat.pow_succ]
  generalize zr6 (n * 10 + (b.toNat - 48)) l=d at *
  generalize 10 ^ l.length=p at *
  have h2:n * 10 + (b.toNat - 48) + 1≤(n + 1) * 10:=by omega
  have h3:=Nat.mul_le_mul_right p h2
  have h4:(n + 1) * 10 * p=(n + 1) * (p * 10):=by rw[Nat.mul_assoc,Nat.mul_comm 10 p]
  omega
theorem zbms {l:List (BitVec 8)} {j:Nat} (h:j < l.length):l.take (j + 1)=l.take j ++ [l.getD j 0]:=by
 rw[List.getD_eq_getElem?_getD,List.getElem?_eq_getElem h];exact List.take_succ_eq_append_getElem h
theorem zbku (w:ByteArray) (Q:V→Heap→Prop) (hQ:Q (.tuple #[i64 (zhm w).1,.bool (zhm w).2]) H):wp (zhh [.string w]) Q H:=by
 show wp (zm1 (.string w)) Q H
 have hlen:=zct w
 by_cases c1:w.size=0
 ·have e1:decide (w=(⟨#[]⟩:ByteArray))=true:=decide_eq_true (zzu c1)
  rw[zhm,if_pos (.inl c1)] at hQ
  (try simp(maxSteps:=1000000)(disch:=first|omega|(simp only[Z3];omega)|(simp;done)|assumption|decide|(apply not_not_intro;assumption))only[ZB,zm1,e1])
  exact hQ
 have e1:decide (w=(⟨#[]⟩:ByteArray))=false:=decide_eq_false fun h=>c1 (by rw[h];rfl)
 by_cases c2:w.size > 10
 ·have e2:decide ((w.size:Int) > 10)=true:=decide_eq_true (by omega)
  rw[zhm,if_pos (.inr (.inl c2))] at hQ
  (try simp(maxSteps:=1000000)(disch:=first|omega|(simp only[Z3];omega)|(simp;done)|assumption|decide|(apply not_not_intro;assumption))only[ZB,zm1,e1,e2])
  exact hQ
 have e2:decide ((w.size:Int) > 10)=false:=decide_eq_false (by omega)
 have ix:=zi9 (s:=w) (k := .i64) (i:=0) (by omega) (by omega)
 have hhd:(bv w).getD (0:Int).toNat 0=(bv w).headD 0:=by cases bv w <;> rfl
 rw[hhd] at ix
 have e48:(Value.int .u8 48:V)=B 48#8:=rfl
 have go:(¬ (w.size > 1∧(bv w).headD 0=48#8))→wp (zb (z3p [.string w]) fun o=>zbg o fun vs=>ret (zbe [zc vs 0,zc vs 1])) Q H:=fun c3=>by
  have hn:zhm w=if (bv w).all zng=false then (0,false) else (((zr6 0 (bv w):Nat):Int),decide (zr6 0 (bv w)≤1000000000)):=by
   by_cases hd:(bv w).all zng=false
   ·rw[zhm,if_pos (.inr (.inr (.inl hd))),if_pos hd]
   ·rw[zhm,if_neg (by rintro (r | r | r | r);exact c1 r;exact c2 r;exact hd r;exact c3 r),if_neg hd]
  (try simp(maxSteps:=1000000)(disch:=first|omega|(simp only[Z3];omega)|(simp;done)|assumption|decide|(apply not_not_intro;assumption))only[ZB,z3p])
  refine zbt w.size (by omega) (fun j vs H'=>vs=[.string w,i64 ((zr6 0 ((bv w).take j):Nat):Int),i64 j]∧H'=H∧((bv w).take j).all zng=true) ⟨rfl,rfl,rfl⟩ ?_
  rintro j vs H1 hj ⟨rfl,rfl,hd⟩
  have hlt2:=zb20 _ 0 hd
  rw[List.length_take] at hlt2
  have hp:10 ^ min j (bv w).length≤10 ^ 10:=Nat.pow_le_pow_right (by decide) (by omega)
  have hp2:(10:Nat) ^ 10=10000000000:=by decide
  rw[Nat.zero_add,Nat.one_mul] at hlt2
  by_cases hlt:j < w.size
  case neg =>
   have:j=w.size:=by omega
   subst this
   rw[List.take_of_length_le (by omega)] at hd hlt2 ⊢
   rw[hn,if_neg (by rw[hd];simp)] at hQ
   have ed:decide (((zr6 0 (bv w):Nat):Int)≤1000000000)=decide (zr6 0 (bv w)≤1000000000):=by
    apply decide_eq_decide.mpr;omega
   (try simp(maxSteps:=1000000)(disch:=first|omega|(simp only[Z3];omega)|(simp;done)|assumption|decide|(apply not_not_intro;assumption))only[ZB,zrc,zbe6,ed])
   exact hQ
  have iy:=zi9 (s:=w) (k := .i64) (i:=j) (by omega) (by omega)
  rw[Int.toNat_natCast] at iy
  have htk:=zbms (l:=bv w) (j:=j) (by omega)
  by_cases hdj:zng ((bv w).getD j 0)=true
  ·have hb:48≤((bv w).getD j 0).toNat∧((bv w).getD j 0).toNat≤57:=by
    unfold zng at hdj
    exact of_decide_eq_true hdj
   have hap:=zb0k ((bv w).take j) ((bv w).getD j 0) 0
   generalize zr6 0 ((bv w).take j)=d at *
   have hall:((bv w).take (j + 1)).all zng=true:=by
    rw[htk,List.all_append,hd,List.all_cons,hdj];rfl
   rw[← htk] at hap
   generalize (bv w).getD j 0=b at *
   have f1:decide ((b.toNat:Int) < 48)=false:=decide_eq_false (by omega)
   have f2:decide ((b.toNat:Int) > 57)=false:=decide_eq_false (by omega)
   have f3:zr .sub (B b) (Value.int .u8 48)=some (.int .u8 (((b.toNat - 48:Nat)):Int)):=by
    show some (Value.int .u8 (IntKind.wrap .u8 ((b.toNat:Int) - 48)))=_
    have:IntKind.wrap .u8 ((b.toNat:Int) - 48)=((b.toNat - 48:Nat):Int):=by
     simp[IntKind.wrap,IntKind.signed,IntKind.bits];omega
    rw[this]
   have f4:cvi .i64 (Value.int .u8 (((b.toNat - 48:Nat)):Int))=some (i64 (((b.toNat - 48:Nat)):Int)):=by rw[zb1z,i64_in (by omega) (by omega)]
   (try simp(maxSteps:=1000000)(disch:=first|omega|(simp only[Z3];omega)|(simp;done)|assumption|decide|(apply not_not_intro;assumption))only[ZB,zrc,zv3,zbe4,zbe5,iy,f1,f2,f3,f4])
   refine⟨hlt,?_,hall⟩
   rw[hap];push_cast;rfl
  ·have hnd:(bv w).all zng=false:=by
    cases hh:(bv w).all zng with
    | false=>rfl
    | true =>
     have:=List.all_eq_true.1 hh ((bv w).getD j 0) (by rw[List.getD_eq_getElem?_getD,List.getElem?_eq_getElem (by omega)];exact List.getElem_mem _)
     exact absurd this hdj
   rw[hn,if_pos hnd] at hQ
   have hb:¬ (48≤((bv w).getD j 0).toNat∧((bv w).getD j 0).toNat≤57):=fun q=>hdj (by unfold zng;exact decide_eq_true q)
   generalize (bv w).getD j 0=b at *
   by_cases hlo:b.toNat < 48
   ·have f1:decide ((b.toNat:Int) < 48)=true:=decide_eq_true (by omega)
    (try simp(maxSteps:=1000000)(disch:=first|omega|(simp only[Z3];omega)|(simp;done)|assumption|decide|(apply not_not_intro;assumption))only[ZB,zrc,zv3,iy,f1])
    exact hQ
   ·have f1:decide ((b.toNat:Int) < 48)=false:=decide_eq_false (by omega)
    have f2:decide ((b.toNat:Int) > 57)=true:=decide_eq_true (by omega)
    (try simp(maxSteps:=1000000)(disch:=first|omega|(simp only[Z3];omega)|(simp;done)|assumption|decide|(apply not_not_intro;assumption))only[ZB,zrc,zv3,iy,f1,f2])
    exact hQ
 by_cases c3:w.size > 1
 ·have e3:decide ((w.size:Int) > 1)=true:=decide_eq_true (by omega)
  by_cases c4:(bv w).headD 0=48#8
  ·have e4:decide ((((bv w).headD 0).toNat:Int)=((48#8).toNat:Int))=true:=decide_eq_true (by rw[c4])
   rw[zhm,if_pos (.inr (.inr (.inr ⟨c3,c4⟩)))] at hQ
   (try simp(maxSteps:=1000000)(disch:=first|omega|(simp only[Z3];omega)|(simp;done)|assumption|decide|(apply not_not_intro;assumption))only[ZB,zm1,e1,e2,e3,ix,e48,e4])
   exact hQ
  ·have e4:decide ((((bv w).headD 0).toNat:Int)=((48#8).toNat:Int))=false:=decide_eq_false fun q=>c4 (BitVec.eq_of_toNat_eq (by omega))
   have:=go (fun q=>c4 q.2)
   (try simp(maxSteps:=1000000)(disch:=first|omega|(simp only[Z3];omega)|(simp;done)|assumption|decide|(apply not_not_intro;assumption))only[ZB,zm1,e1,e2,e3,ix,e48,e4])
   simp only[z6] at this
   exact this
 ·have e3:decide ((w.size:Int) > 1)=false:=decide_eq_false (by omega)
  have:=go (fun q=>c3 q.1)
  (try simp(maxSteps:=1000000)(disch:=first|omega|(simp only[Z3];omega)|(simp;done)|assumption|decide|(apply not_not_intro;assumption))only[ZB,zm1,e1,e2,e3])
  simp only[z6] at this
  exact this
theorem zbf3 {v:V} {ws:List ByteArray} (h:Sl H v ws) (hl:ws.length≤1000000) (k many:Nat) (hk:k≤ws.length) (hm:many≤1000000) (Q:V→Heap→Prop)
  (hok:∀ l,zds (ws.drop k) many=some l→∀ w H',Keeps [] H H'→zi7 H' w l→(∀ b∈vb w,H.next≤b)→Q (.tuple #[w,.bool true]) H') (hbad:zds (ws.drop k) many=none→∀ w H',Keeps [] H H'→Q (.tuple #[w,.bool false]) H'):wp (zez [v,i64 k,i64 many]) Q H:=by
 show wp (zv4 v (i64 k) (i64 many)) Q H
 have hlen:=h.len
 have hdl:(ws.drop k).length=ws.length - k:=List.length_drop
 by_cases c1:ws.length=k + many
 case neg =>
  have e1:decide ((ws.length:Int)≠(k:Int) + (many:Int))=true:=decide_eq_true (by omega)
  (try simp(maxSteps:=1000000)(disch:=first|omega|(simp only[Z3];omega)|(simp;done)|assumption|decide|(apply not_not_intro;assumption))only[ZB,zv4,hlen,e1])
  exact hbad (by rw[zds,if_neg (fun q=>c1 (by omega))]) _ _ (Keeps.refl _ _)
 have e1:decide ((ws.length:Int)≠(k:Int) + (many:Int))=false:=decide_eq_false (by omega)
 (try simp(maxSteps:=1000000)(disch:=first|omega|(simp only[Z3];omega)|(simp;done)|assumption|decide|(apply not_not_intro;assumption))only[ZB,zv4,zbbr,hlen,e1])
 refine zbt many (by omega) (fun j vs H'=>∃ w,vs=[v,w,i64 ((k + j:Nat):Int)]∧Hp H H' [own w (((ws.drop k).take j).map fun x=>(zhm x).1)]∧∀ i,i < j→(zhm (z8 ws (k + i))).2=true) ⟨.slice none 0 0,rfl,(Hp.start H).nilo (α:=Int),by omega⟩ ?_
 rintro j vs H1 hj ⟨w,rfl,s1,hn⟩
 have hlen1:=(s1.ro h).len
 by_cases hlt:j < many
 case neg =>
  have:j=many:=by omega
  subst this
  rw[List.take_of_length_le (by omega)] at s1
  have o1:=s1.own (i:=0) rfl
  have hall:(ws.drop k).all (fun w=>(zhm w).2)=true:=by
   rw[List.all_eq_true]
   intro x hx
   obtain⟨i,hi,rfl⟩:=List.getElem_of_mem hx
   have:=hn i (by omega)
   rw[z8,List.getD_eq_getElem?_getD,List.getElem?_eq_getElem (by omega)] at this
   rw[List.getElem_drop];exact this
  have e:zds (ws.drop k) j=some ((ws.drop k).map fun w=>(zhm w).1):=by rw[zds,if_pos ⟨hall,by omega⟩]
  (try simp(maxSteps:=1000000)(disch:=first|omega|(simp only[Z3];omega)|(simp;done)|assumption|decide|(apply not_not_intro;assumption))only[ZB,z0x,zbbq,hlen])
  exact hok _ e _ _ s1.keeps o1 (s1.newAt (i:=0) rfl)
 have hts:(ws.drop k).take (j + 1)=(ws.drop k).take j ++ [z8 ws (k + j)]:=by
  rw[z8,List.getD_eq_getElem?_getD,List.getElem?_eq_getElem (by omega),List.take_succ_eq_append_getElem (by omega),List.getElem_drop];rfl
 have hm2:z8 ws (k + j)∈ws.drop k:=by
  rw[z8,List.getD_eq_getElem?_getD,List.getElem?_eq_getElem (by omega)]
  exact List.mem_iff_getElem.2 ⟨j,by omega,List.getElem_drop⟩
 obtain⟨a1,b1⟩:=zwd (s1.ro h) (i:=k + j) (by omega)
 (try simp(maxSteps:=1000000)(disch:=first|omega|(simp only[Z3];omega)|(simp;done)|assumption|decide|(apply not_not_intro;assumption))only[ZB,z0x,zbbp,hlen,a1,b1])
 refine zbku (z8 ws (k + j)) _ ?_
 cases hb:(zhm (z8 ws (k + j))).2 with
 | false =>
  have e:zds (ws.drop k) many=none:=by
   rw[zds,if_neg]
   rintro⟨q,_⟩
   have:=List.all_eq_true.1 q _ hm2
   rw[hb] at this;cases this
  (try simp(maxSteps:=1000000)(disch:=first|omega|(simp only[Z3];omega)|(simp;done)|assumption|decide|(apply not_not_intro;assumption))only[ZB])
  exact hbad e _ _ s1.keeps
 | true =>
  have htl:(((ws.drop k).take j).map fun x=>(zhm x).1).length=j:=by rw[List.length_map,List.length_take];omega
  (try simp(maxSteps:=1000000)(disch:=first|omega|(simp only[Z3];omega)|(simp;done)|assumption|decide|(apply not_not_intro;assumption))only[ZA,zbh,zp,zo,zm,zi,zf,zh,zd,zbbn])
  refine zf5 (α:=Int) (n:=1) (ys:=[(zhm (z8 ws (k + j))).1]) s1 (i:=0) rfl rfl (by decide) (by rw[show rep 1 [Value.int .i64 0]=[i64 0] from rfl,zd rfl (by decide),zba];rfl) rfl (by rw[htl];omega) (by rw[htl];omega) fun w' H3 s3=>?_
  simp only[List.set_cons_zero] at s3
  (try simp(maxSteps:=1000000)(disch:=first|omega|(simp only[Z3];omega)|(simp;done)|assumption|decide|(apply not_not_intro;assumption))only[ZB,zbbo])
  refine⟨hlt,w',?_,?_,fun i hi=>?_⟩
  ·rw[show (((k + (j + 1):Nat)):Int)=((k + j:Nat):Int) + 1 by omega]
  ·rw[hts,List.map_append];exact s3
  ·rcases Nat.lt_or_eq_of_le (Nat.lt_succ_iff.1 hi) with q | rfl
   ·exact hn i q
   ·exact hb
end Go.AM.Cap

/- conf, the document: where a word stands; lines of points -/
set_option maxHeartbeats 16000000
namespace Go.AM.Cap
open Go.AM Go.Proofs
variable {H0 H:Heap} {R:Nat} {v:RV} {st:RSt} {L:List Thing}
def amS:List ByteArray→ByteArray→Int
 | [],_=>-1
 | x :: l,s=>if x=s then 0 else if amS l s = -1 then -1 else amS l s + 1
theorem zb0l:∀ {l:List ByteArray} {s:ByteArray} {j:Nat},j < l.length→z8 l j=s→(∀ i,i < j→z8 l i≠s)→amS l s=j
 | x :: l,s,0,_,h,_=>by
  have:x=s:=h
  rw[amS,if_pos this];rfl
 | x :: l,s,j + 1,hj,h,hn=>by
  have h0:x≠s:=hn 0 (by omega)
  have ih:=zb0l (l:=l) (s:=s) (j:=j) (by simpa using hj) h (fun i hi=>hn (i + 1) (by omega))
  rw[amS,if_neg h0,ih,if_neg (by omega)];omega
theorem zbv5:∀ {l:List ByteArray} {s:ByteArray},(∀ i,i < l.length→z8 l i≠s)→amS l s = -1
 | [],_,_=>rfl
 | x :: l,s,hn=>by
  have h0:x≠s:=hn 0 (by simp)
  have ih:=zbv5 (l:=l) (s:=s) (fun i hi=>hn (i + 1) (by simpa using hi))
  rw[amS,if_neg h0,ih,if_pos rfl]
theorem z2n {w:V} {l:List ByteArray} (h:Sl H w l) (hl:l.length≤10000000) (s:ByteArray) (Q:V→Heap→Prop) (hQ:Q (i64 (amS l s)) H):wp (zdr [w,.string s]) Q H:=by
 show wp (z0y w (.string s)) Q H
 have hlen:=h.len
 (try simp(maxSteps:=1000000)(disch:=first|omega|(simp only[Z3];omega)|(simp;done)|assumption|decide|(apply not_not_intro;assumption))only[ZB,z0y])
 refine zbt l.length (by omega) (fun j vs H'=>vs=[w,.string s,i64 j]∧H'=H∧∀ i,i < j→z8 l i≠s) ⟨rfl,rfl,by omega⟩ ?_
 rintro j vs H1 hj ⟨rfl,rfl,hn⟩
 by_cases hlt:j < l.length
 case neg =>
  have:j=l.length:=by omega
  subst this
  rw[zbv5 hn] at hQ
  (try simp(maxSteps:=1000000)(disch:=first|omega|(simp only[Z3];omega)|(simp;done)|assumption|decide|(apply not_not_intro;assumption))only[ZB,zrd,z7d,hlen])
  exact hQ
 obtain⟨a1,b1⟩:=zwd h hlt
 by_cases c:z8 l j=s
 ·rw[zb0l hlt c hn] at hQ
  have e1:decide (z8 l j=s)=true:=decide_eq_true c
  (try simp(maxSteps:=1000000)(disch:=first|omega|(simp only[Z3];omega)|(simp;done)|assumption|decide|(apply not_not_intro;assumption))only[ZB,zrd,zx2,hlen,a1,b1,e1])
  exact hQ
 ·have e1:decide (z8 l j=s)=false:=decide_eq_false c
  (try simp(maxSteps:=1000000)(disch:=first|omega|(simp only[Z3];omega)|(simp;done)|assumption|decide|(apply not_not_intro;assumption))only[ZB,zrd,zx2,z7c,hlen,a1,b1,e1])
  refine⟨hlt,rfl,fun i hi=>?_⟩
  rcases Nat.lt_or_eq_of_le (Nat.lt_succ_iff.1 hi) with q | rfl
  ·exact hn i q
  ·exact c
def zbdn:List ByteArray:=[zeq,zbca,kInt,zbcb]
def z4a:List ByteArray:=[zeq,zbcc,kRun,z1b,z1c]
theorem zbf4 (Q:V→Heap→Prop) (hQ:∀ w H',Keeps [] H H'→Sl H' w zbdn→Q w H'):wp (zhi []) Q H:=by
 show wp z0z Q H
 have hp:=(Hp.start H).newo (α:=ByteArray) (n:=1) (m:=4) zbdn rfl rfl
 unfold z0z
 rw[z6,z6]
 refine (zi8 (cs:=zbm zbdn) (by decide) (by rfl)).mpr ?_
 (try simp(maxSteps:=1000000)(disch:=first|omega|(simp only[Z3];omega)|(simp;done)|assumption|decide|(apply not_not_intro;assumption))only[ZA,zbh,zp,zo,zm,zi,zf,zg,zd])
 exact hQ _ _ (Keeps.push _ _ _) (hp.own (i:=0) rfl).sl
theorem zbxw (Q:V→Heap→Prop) (hQ:∀ w H',Keeps [] H H'→Sl H' w z4a→Q w H'):wp (zri []) Q H:=by
 show wp zx8 Q H
 have hp:=(Hp.start H).newo (α:=ByteArray) (n:=1) (m:=5) z4a rfl rfl
 unfold zx8
 rw[z6,z6]
 refine (zi8 (cs:=zbm z4a) (by decide) (by rfl)).mpr ?_
 (try simp(maxSteps:=1000000)(disch:=first|omega|(simp only[Z3];omega)|(simp;done)|assumption|decide|(apply not_not_intro;assumption))only[ZA,zbh,zp,zo,zm,zi,zf,zg,zd])
 exact hQ _ _ (Keeps.push _ _ _) (hp.own (i:=0) rfl).sl
theorem zbs5 (w:ByteArray):amS zbdn w=if zcg w=0 then (if zeq=w then 0 else -1) else zcg w:=by
 by_cases h0:zeq=w
 ·subst h0;decide
 by_cases h1:w=zbca
 ·subst h1;decide
 by_cases h2:w=kInt
 ·subst h2;decide
 by_cases h3:w=zbcb
 ·subst h3;decide
 have k0:zcg w=0:=by rw[zcg,if_neg h1,if_neg h2,if_neg h3]
 rw[k0,if_pos rfl,if_neg h0]
 have n1:¬ zbca=w:=fun q=>h1 q.symm
 have n2:¬ kInt=w:=fun q=>h2 q.symm
 have n3:¬ zbcb=w:=fun q=>h3 q.symm
 simp only[zbdn,amS,if_neg h0,if_neg n1,if_neg n2,if_neg n3,if_true]
theorem zbnp (w:ByteArray):amS z4a w=if zcc w=0 then (if zeq=w then 0 else -1) else zcc w:=by
 by_cases h0:zeq=w
 ·subst h0;decide
 by_cases h1:w=zbcc
 ·subst h1;decide
 by_cases h2:w=kRun
 ·subst h2;decide
 by_cases h3:w=z1b
 ·subst h3;decide
 by_cases h4:w=z1c
 ·subst h4;decide
 have k0:zcc w=0:=by rw[zcc,if_neg h1,if_neg h2,if_neg h3,if_neg h4]
 rw[k0,if_pos rfl,if_neg h0]
 have n1:¬ zbcc=w:=fun q=>h1 q.symm
 have n2:¬ kRun=w:=fun q=>h2 q.symm
 have n3:¬ z1b=w:=fun q=>h3 q.symm
 have n4:¬ z1c=w:=fun q=>h4 q.symm
 simp only[z4a,amS,if_neg h0,if_neg n1,if_neg n2,if_neg n3,if_neg n4,if_true]
theorem zb21 (w:ByteArray):0≤zcg w:=by
 unfold zcg
 by_cases h1:w=zbca
 ·rw[if_pos h1];decide
 rw[if_neg h1]
 by_cases h2:w=kInt
 ·rw[if_pos h2];decide
 rw[if_neg h2]
 by_cases h3:w=zbcb
 ·rw[if_pos h3];decide
 rw[if_neg h3];decide
theorem zb0m (w:ByteArray):0≤zcc w:=by
 unfold zcc
 by_cases h1:w=zbcc
 ·rw[if_pos h1];decide
 rw[if_neg h1]
 by_cases h2:w=kRun
 ·rw[if_pos h2];decide
 rw[if_neg h2]
 by_cases h3:w=z1b
 ·rw[if_pos h3];decide
 rw[if_neg h3]
 by_cases h4:w=z1c
 ·rw[if_pos h4];decide
 rw[if_neg h4];decide
theorem zb0n {w:ByteArray} (h:zcg w=0):decide (amS zbdn w < 1)=true:=by
 refine decide_eq_true ?_
 rw[zbs5,if_pos h]
 by_cases q:zeq=w
 ·rw[if_pos q];decide
 ·rw[if_neg q];decide
theorem zbv6 {w:ByteArray} (h:zcg w≠0):amS zbdn w=zcg w∧decide (zcg w < 1)=false:=by
 have:=zb21 w
 exact⟨by rw[zbs5,if_neg h],decide_eq_false (by omega)⟩
theorem zb41 {w:ByteArray} (h:zcc w=0):decide (amS z4a w < 1)=true:=by
 refine decide_eq_true ?_
 rw[zbnp,if_pos h]
 by_cases q:zeq=w
 ·rw[if_pos q];decide
 ·rw[if_neg q];decide
theorem zb22 {w:ByteArray} (h:zcc w≠0):amS z4a w=zcc w∧decide (zcc w < 1)=false:=by
 have:=zb0m w
 exact⟨by rw[zbnp,if_neg h],decide_eq_false (by omega)⟩
theorem zbkv {H:Heap}:chk (ret zon) H zon=true:=rfl
theorem zbnq {wv:V} {ws:List ByteArray} (h:ReadAt H0 H R v st (view wv ws :: L)) (hs:Sm st 1000000) (hw:1≤ws.length):zfp H0 H R (view wv ws :: L) (zir st ws) (zij [ptr R 0,wv]):=by
 intro Q hok hbad
 show wp (zii (ptr R 0) wv) Q H
 have hsl:=h.words
 have hlen:=hsl.len
 by_cases c1:ws.length=2
 case neg =>
  have e:zir st ws=none:=by rw[zir,if_neg (fun q=>c1 q.1)]
  have e1:decide ((ws.length:Int)≠2)=true:=decide_eq_true (by omega)
  (try simp(maxSteps:=1000000)(disch:=first|omega|(simp only[Z3];omega)|(simp;done)|assumption|decide|(apply not_not_intro;assumption))only[ZB,zii,hlen,e1,zbkv])
  exact hbad e _ h.rest
 have e1:decide ((ws.length:Int)≠2)=false:=decide_eq_false (by omega)
 obtain⟨a1,b1⟩:=wd hsl (i:=1) (n:=1) (by omega) rfl
 (try simp(maxSteps:=1000000)(disch:=first|omega|(simp only[Z3];omega)|(simp;done)|assumption|decide|(apply not_not_intro;assumption))only[ZB,zii,hlen,e1,a1,b1])
 refine zbf4 _ fun t1 H1 k1 t1s=>?_
 have r1:=h.keep0 k1
 obtain⟨a1',b1'⟩:=wd r1.words (i:=1) (n:=1) (by omega) rfl
 (try simp(maxSteps:=1000000)(disch:=first|omega|(simp only[Z3];omega)|(simp;done)|assumption|decide|(apply not_not_intro;assumption))only[ZB])
 refine z2n t1s (by decide) (z8 ws 1) _ ?_
 by_cases c2:zcg (z8 ws 1)=0
 ·have e:zir st ws=none:=by rw[zir,if_neg (fun q=>q.2 c2)]
  have ed:=zb0n c2
  (try simp(maxSteps:=1000000)(disch:=first|omega|(simp only[Z3];omega)|(simp;done)|assumption|decide|(apply not_not_intro;assumption))only[ZB,ed,b1'])
  exact hbad e _ r1.rest
 obtain⟨ed,ef⟩:=zbv6 c2
 have e:zir st ws=some (addP st ⟨zcg (z8 ws 1),decide (z8 ws 0=zwc)⟩):=by rw[zir,if_pos ⟨c1,c2⟩]
 rw[ed]
 obtain⟨a0,b0⟩:=wd0 r1.words (by omega)
 have g:=r1.get
 unfold RV.cells at g
 (try simp(maxSteps:=1000000)(disch:=first|omega|(simp only[Z3];omega)|(simp;done)|assumption|decide|(apply not_not_intro;assumption))only[ZB,ef,b1',zsc,a1',a0,b0,g])
 refine zbf4 _ fun t2 H2 k2 t2s=>?_
 have r2:=r1.keep0 k2
 obtain⟨_,b1''⟩:=wd r2.words (i:=1) (n:=1) (by omega) rfl
 obtain⟨_,b0''⟩:=wd0 r2.words (by omega)
 have hone:=r2.hp.own (i:=1) rfl
 have ck2:zgm (zdk (H2.get R) 0) v.pv=true:=by rw[r2.get];exact zen hone.sl
 (try simp(maxSteps:=1000000)(disch:=first|omega|(simp only[Z3];omega)|(simp;done)|assumption|decide|(apply not_not_intro;assumption))only[ZB])
 refine z2n t2s (by decide) (z8 ws 1) _ ?_
 rw[ed]
 (try simp(maxSteps:=1000000)(disch:=first|omega|(simp only[Z3];omega)|(simp;done)|assumption|decide|(apply not_not_intro;assumption))only[ZA,zbh,zp,zo,zm,zf,zg,zh,zd])
 have hf:zbn (rep 1 [Value.int .i64 0,Value.bool false]) [(0,2,.agg #[i64 (zcg (z8 ws 1)),.bool (decide (z8 ws 0=(⟨#[111,117,116]⟩:ByteArray)))])]=some (zbm ([⟨zcg (z8 ws 1),decide (z8 ws 0=zwc)⟩]:List Pt)):=by
  show zbn _ [(0,2,.agg ([i64 (zcg (z8 ws 1)),.bool (decide (z8 ws 0=zwc))]:List V).toArray)]=_
  rw[zi (n:=2) rfl rfl (by decide),zba]
  rfl
 refine zgl (α:=Pt) (n:=2) (ys:=[⟨zcg (z8 ws 1),decide (z8 ws 0=zwc)⟩]) r2.hp (i:=1) rfl rfl (by decide) hf rfl (by have:=hs.pts;omega) (by decide) fun w H3 H4 k3 s3=>?_
 have g3:=k3.get r2.get (by simp)
 have ck3:zgm (zdk (H3.get R) 0) v.pv=true:=by rw[g3];exact zen hone.sl
 have g4:=s3.get (i:=0) rfl
 unfold RV.cells at g4
 have n4:=Heap.get_lt g4
 have ow:=(s3.own (i:=1) rfl).isOne
 (try simp(maxSteps:=1000000)(disch:=first|omega|(simp only[Z3];omega)|(simp;done)|assumption|decide|(apply not_not_intro;assumption))only[ZB,g4])
 simp only[ow,true_and]
 have s4:=s3.set (i:=0) rfl ({ v with pv:=w }.cells (addP st ⟨zcg (z8 ws 1),decide (z8 ws 0=zwc)⟩))
 unfold RV.cells at s4
 have r3:ReadAt H0 _ R { v with pv:=w } (addP st ⟨zcg (z8 ws 1),decide (z8 ws 0=zwc)⟩) (view wv ws :: L):=⟨s4,h.uns,h.us⟩
 (try simp(maxSteps:=1000000)(disch:=first|omega|(simp only[Z3];omega)|(simp;done)|assumption|decide|(apply not_not_intro;assumption))only[ZB,ck2,ck3,b1'',b0''])
 exact hok _ e _ _ r3
end Go.AM.Cap
