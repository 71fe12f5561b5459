import Derived.Test.YtjchglndancedaaGreatDoorFun2
import Derived.Test.YtjchglndancedaaGreatDoorAmIn
set_option linter.all false
/- roles: strings.Trim at a set of ASCII letters -/
set_option maxHeartbeats 8000000
namespace Go.AM.Cap
open Go.AM Go.Proofs
theorem zbmw {cs vs:List V} (h:vs.length=cs.length):splice cs 0 vs=vs:=by
 unfold splice
 rw[List.take_zero,List.nil_append,List.drop_of_length_le (by omega),List.append_nil]
theorem zc4 {H:Heap} {b n:Nat} {cs vs:List V} {Q:V→Heap→Prop} (hg:H.get b=some (.cells true cs)) (h1:cs.length=n) (h2:vs.length=n) (h3:vs.all Value.isOne=true):wp (stn n (ptr b 0) (.agg vs.toArray)) Q H↔Q undef (H.set b (some (.cells true vs))):=by
 rw[zp,hg,z3z h3 h2 (by omega),zbmw (by omega)]
theorem zbc {H:Heap} {b n:Nat} {rw_:Bool} {cs:List V} {Q:V→Heap→Prop} (hg:H.get b=some (.cells rw_ cs)) (h1:cs.length=n):wp (ldn n (ptr b 0)) Q H↔Q (.agg cs.toArray) H:=by
 rw[zca,hg,zsi (by omega),List.drop_zero,List.take_of_length_le (by omega)]
def inS (cs:List (BitVec 8)) (b:BitVec 8):Bool:=cs.any fun c=>c.toNat == b.toNat
def zsq (cs:List (BitVec 8)):List V:=(List.range 256).map fun j => .bool (cs.any fun c=>c.toNat == j)
theorem zly (cs:List (BitVec 8)):(zsq cs).length=256:=by simp[zsq]
theorem zbsb:zsq []=List.replicate 256 (Value.bool false):=by kernel_rfl
theorem zbkj (cs:List (BitVec 8)):(zsq cs).all Value.isOne=true:=by
 rw[List.all_eq_true]
 intro v hv
 simp only[zsq,List.mem_map] at hv
 obtain⟨j,_,rfl⟩:=hv
 rfl
theorem zbkk (cs:List (BitVec 8)) (b:BitVec 8):(zsq cs)[b.toNat]? = some (.bool (inS cs b)):=by
 have:=b.isLt
 simp only[zsq,List.getElem?_map,List.getElem?_range this,Option.map_some,inS]
theorem zbpy (cs:List (BitVec 8)) (b:BitVec 8):(zsq cs).set b.toNat (.bool true)=zsq (cs ++ [b]):=by
 apply List.ext_getElem?
 intro j
 rw[List.getElem?_set,zly]
 by_cases hj:b.toNat=j
 ·subst hj
  rw[if_pos rfl,if_pos b.isLt,zbkk]
  simp[inS]
 ·rw[if_neg hj]
  simp only[zsq,List.getElem?_map]
  by_cases h:j < 256
  ·rw[List.getElem?_range h]
   simp[hj]
  ·rw[List.getElem?_eq_none (by simpa using h)]
   rfl
theorem zbyl {H:Heap} (s:ByteArray) (ha:∀ b∈bv s,b.toNat < 128) (hs:s.size≤1000000) (Q:V→Heap→Prop) (hQ:∀ H',Keeps [] H H'→Q (.tuple #[.agg (zsq (bv s)).toArray,.bool true]) H'):wp (zgo [.string s]) Q H:=by
 show wp (zjk (.string s)) Q H
 have hb:=zcy s
 unfold zjk
 rw[z6,z6]
 refine (z1r (by kernel_rfl)).mpr ?_
 rw[← zbsb]
 have k1:Keeps [] H (H.push (some (.cells true (zsq [])))):=Keeps.push _ _ _
 have g1:(H.push (some (.cells true (zsq [])))).get H.next=some (.cells true (zsq [])):=Heap.get_push_self _ _
 have n1:(H.push (some (.cells true (zsq [])))).next=H.next + 1:=by simp
 generalize H.push (some (.cells true (zsq [])))=H1 at *
 (try simp(maxSteps:=1000000)(disch:=first|omega|(simp only[Z3];omega)|(simp;done)|assumption|decide|(apply not_not_intro;assumption))only[ZB])
 refine zl4 (Inv:=fun k vs H'=>∃ i:Nat,k=s.size - i∧i≤s.size∧vs=[.string s,ptr H.next 0,i64 i]∧Keeps [] H H'∧H.next < H'.next∧H'.get H.next=some (.cells true (zsq ((bv s).take i)))) (n:=s.size) (by unfold zby;omega)
  ⟨0,by omega,by omega,rfl,k1,by omega,g1⟩ ?_
 rintro k vs H2 ⟨i,hk,hi,rfl,hk2,hn2,hg2⟩
 by_cases hlt:i < s.size
 case neg =>
  have:i=s.size:=by omega
  subst this
  rw[← hb,List.take_length] at hg2
  have g3:=Heap.get_set_eq (x:=some (.cells true (zsq (bv s)))) hn2
  (try simp(maxSteps:=1000000)(disch:=first|omega|(simp only[Z3];omega)|(simp;done)|assumption|decide|(apply not_not_intro;assumption))only[ZA,zo,zm,zk,zj,zi,zh,ze,zix,zok,zbc hg2 (zly _),zc4 hg2 (zly _) (zly _) (zbkj _),zbc g3 (zly _)])
  exact hQ _ (zbw hk2 (.inr (Nat.le_refl _)))
 have ix:=zwj (s:=s) (k := .i64) (i:=i) (by omega) (by omega)
 rw[Int.toNat_natCast] at ix
 have hlt':i < (bv s).length:=by omega
 have hmem:(bv s).getD i 0∈bv s:=by
  rw[List.getD_eq_getElem?_getD,List.getElem?_eq_getElem hlt'];exact List.getElem_mem hlt'
 have hsm:=ha _ hmem
 have hst:(bv s).take (i + 1)=(bv s).take i ++ [(bv s).getD i 0]:=by
  rw[List.take_succ,List.getElem?_eq_getElem hlt',List.getD_eq_getElem?_getD,List.getElem?_eq_getElem hlt'];rfl
 generalize (bv s).getD i 0=c at *
 have hia:zmu 256 1 (ptr H.next 0) (B c)=some (ptr H.next c.toNat):=by
  rw[zbcu (by omega) (by omega)];simp
 have hlc:c.toNat < (zsq ((bv s).take i)).length:=by rw[zly];omega
 (try simp(maxSteps:=1000000)(disch:=first|omega|(simp only[Z3];omega)|(simp;done)|assumption|decide|(apply not_not_intro;assumption))only[ZB,zix,zoj,ix,zoh,hia,hg2,zoi])
 refine⟨s.size - (i + 1),by omega,i + 1,rfl,by omega,by push_cast;rfl,zbw hk2 (.inr (Nat.le_refl _)),by omega,?_⟩
 rw[hst,← zbpy]
def zp8 (cs l:List (BitVec 8)):List (BitVec 8):=(l.reverse.dropWhile (inS cs)).reverse
def zse (cs l:List (BitVec 8)):List (BitVec 8):=l.dropWhile (inS cs)
theorem zbsc {H:Heap} {b:Nat} {cs:List (BitVec 8)} (hg:H.get b=some (.cells true (zsq cs))) (c:BitVec 8) (Q:V→Heap→Prop) (hQ:Q (.bool (inS cs c)) H):wp (zch [ptr b 0,B c]) Q H:=by
 show wp (zgp (ptr b 0) (B c)) Q H
 have hlt:=c.isLt
 have hia:zmu 256 1 (ptr b 0) (B c)=some (ptr b c.toNat):=by
  rw[zbcu (by omega) (by omega)];simp
 have hget:=zbkk cs c
 (try simp(maxSteps:=1000000)(disch:=first|omega|(simp only[Z3];omega)|(simp;done)|assumption|decide|(apply not_not_intro;assumption))only[ZB,zgp,hia,hg,hget])
 exact hQ
theorem zbh8 (cs l:List (BitVec 8)) (c:BitVec 8):zp8 cs (l ++ [c])=if inS cs c then zp8 cs l else l ++ [c]:=by
 unfold zp8
 rw[List.reverse_append]
 show (List.dropWhile (inS cs) (c :: l.reverse)).reverse=_
 rw[List.dropWhile_cons]
 split
 ·rfl
 ·simp
theorem zbsd {H:Heap} {b:Nat} {cs:List (BitVec 8)} (hg:H.get b=some (.cells true (zsq cs))) (s:ByteArray) (hs:s.size≤100000000) (Q:V→Heap→Prop) (hQ:Q (.string (sv (zp8 cs (bv s)))) H):wp (zfr [.string s,ptr b 0]) Q H:=by
 show wp (zh7 (.string s) (ptr b 0)) Q H
 (try simp(maxSteps:=1000000)(disch:=first|omega|(simp only[Z3];omega)|(simp;done)|assumption|decide|(apply not_not_intro;assumption))only[ZB,zh7])
 refine zl4 (Inv:=fun k vs H'=>∃ l:List (BitVec 8),k=l.length∧l.length≤s.size∧vs=[.string (sv l),ptr b 0]∧H'=H∧zp8 cs l=zp8 cs (bv s)) (n:=s.size) (by unfold zby;omega)
  ⟨bv s,(zcy s).symm,by rw[zcy];omega,by rw[zbaq],rfl,rfl⟩ ?_
 rintro k vs H' ⟨l,hk,hl,rfl,he,hd⟩
 rw[he];clear he H'
 have hsz:=z3y l
 rcases List.eq_nil_or_concat l with rfl | ⟨m,c,rfl⟩
 ·have hz:¬ (((sv ([]:List (BitVec 8))).size:Int) > 0):=by rw[hsz];simp
  (try simp(maxSteps:=1000000)(disch:=first|omega|(simp only[Z3];omega)|(simp;done)|assumption|decide|(apply not_not_intro;assumption))only[ZB,zht,zhu])
  rw[← hd] at hQ
  exact hQ
 ·rw[List.concat_eq_append] at *
  have hln:(m ++ [c]).length=m.length + 1:=by simp
  have ix:=zwj (s:=sv (m ++ [c])) (k := .i64) (i:=(m.length:Int)) (by omega) (by omega)
  rw[Int.toNat_natCast,zrt,show (m ++ [c]).getD m.length 0=c from by simp] at ix
  have hsub:=zbu6 (s:=sv (m ++ [c])) (k' := .i64) (b:=(m.length:Int)) (by omega) (by omega)
  have hv:(sv (m ++ [c])).extract 0 (m.length:Int).toNat=sv m:=by
   apply zbcv
   rw[zbcw,zrt,zrt];simp
  rw[hv] at hsub
  rw[zbh8] at hd
  have e1:(((m ++ [c]).length:Nat):Int) - 1=m.length:=by omega
  (try simp(maxSteps:=1000000)(disch:=first|omega|(simp only[Z3];omega)|(simp;done)|assumption|decide|(apply not_not_intro;assumption))only[ZB,zht,zmr,hsz,e1,ix])
  refine zbsc hg c _ ?_
  cases hin:inS cs c with
  | true =>
   rw[hin,if_pos rfl] at hd
   (try simp(maxSteps:=1000000)(disch:=first|omega|(simp only[Z3];omega)|(simp;done)|assumption|decide|(apply not_not_intro;assumption))only[ZB,zmq,hsz,e1,hsub])
   exact⟨m.length,by omega,m,rfl,by omega,rfl,hd⟩
  | false =>
   rw[hin,if_neg (by simp)] at hd
   have h01:((0:Nat)=1)=False:=by simp
   (try simp(maxSteps:=1000000)(disch:=first|omega|(simp only[Z3];omega)|(simp;done)|assumption|decide|(apply not_not_intro;assumption))only[ZB,h01,if_false,zhu])
   rw[← hd] at hQ
   exact hQ
theorem zbse {H:Heap} {b:Nat} {cs:List (BitVec 8)} (hg:H.get b=some (.cells true (zsq cs))) (s:ByteArray) (hs:s.size≤100000000) (Q:V→Heap→Prop) (hQ:Q (.string (sv (zse cs (bv s)))) H):wp (zf6 [.string s,ptr b 0]) Q H:=by
 show wp (ziy (.string s) (ptr b 0)) Q H
 (try simp(maxSteps:=1000000)(disch:=first|omega|(simp only[Z3];omega)|(simp;done)|assumption|decide|(apply not_not_intro;assumption))only[ZB,ziy])
 refine zl4 (Inv:=fun k vs H'=>∃ l:List (BitVec 8),k=l.length∧l.length≤s.size∧vs=[.string (sv l),ptr b 0]∧H'=H∧zse cs l=zse cs (bv s)) (n:=s.size) (by unfold zby;omega)
  ⟨bv s,(zcy s).symm,by rw[zcy];omega,by rw[zbaq],rfl,rfl⟩ ?_
 rintro k vs H' ⟨l,hk,hl,rfl,he,hd⟩
 rw[he];clear he H'
 have hsz:=z3y l
 match l,hk,hl,hd,hsz with
 | [],hk,hl,hd,hsz =>
  have hz:¬ (((sv ([]:List (BitVec 8))).size:Int) > 0):=by rw[hsz];simp
  (try simp(maxSteps:=1000000)(disch:=first|omega|(simp only[Z3];omega)|(simp;done)|assumption|decide|(apply not_not_intro;assumption))only[ZB,zh8,zh9])
  rw[← hd] at hQ
  exact hQ
 | c :: m,hk,hl,hd,hsz =>
  rw[List.length_cons] at hsz hk hl
  have ix:=zwj (s:=sv (c :: m)) (k := .i64) (i:=0) (by omega) (by omega)
  rw[zrt,show (c :: m).getD (0:Int).toNat 0=c from rfl] at ix
  have hsub:=zbu5 (s:=sv (c :: m)) (k := .i64) (a:=1) (by omega) (by omega)
  have hv:(sv (c :: m)).extract (1:Int).toNat (sv (c :: m)).size=sv m:=by
   apply zbcv
   rw[zbcw,zrt,zrt,hsz];simp
  rw[hv] at hsub
  have hdl:zse cs (c :: m)=if inS cs c then zse cs m else c :: m:=by
   unfold zse;rw[List.dropWhile_cons]
  rw[hdl] at hd
  (try simp(maxSteps:=1000000)(disch:=first|omega|(simp only[Z3];omega)|(simp;done)|assumption|decide|(apply not_not_intro;assumption))only[ZB,zh8,znf,hsz,ix])
  refine zbsc hg c _ ?_
  cases hin:inS cs c with
  | true =>
   rw[hin,if_pos rfl] at hd
   (try simp(maxSteps:=1000000)(disch:=first|omega|(simp only[Z3];omega)|(simp;done)|assumption|decide|(apply not_not_intro;assumption))only[ZB,zne,hsub])
   exact⟨m.length,by omega,m,rfl,by omega,rfl,hd⟩
  | false =>
   rw[hin,if_neg (by simp)] at hd
   have h01:((0:Nat)=1)=False:=by simp
   (try simp(maxSteps:=1000000)(disch:=first|omega|(simp only[Z3];omega)|(simp;done)|assumption|decide|(apply not_not_intro;assumption))only[ZB,h01,if_false,zh9])
   rw[← hd] at hQ
   exact hQ
theorem zbpz (cs l:List (BitVec 8)):(zp8 cs l).length≤l.length:=by
 unfold zp8
 rw[List.length_reverse]
 have:=(List.dropWhile_sublist (inS cs) (l:=l.reverse)).length_le
 rwa[List.length_reverse] at this
theorem zbh9 {H:Heap} {G:List V→M V} (s cs:ByteArray) (hs:s.size≤100000000) (ha:∀ b∈bv cs,b.toNat < 128) (hc:2≤cs.size) (hc2:cs.size≤1000000) (Q:V→Heap→Prop) (hQ:∀ H',Keeps [] H H'→Q (.string (sv (zse (bv cs) (zp8 (bv cs) (bv s))))) H'):wp (zf1 G [.string s,.string cs]) Q H:=by
 show wp (zo9 G (.string s) (.string cs)) Q H
 have hne:¬ cs=⟨#[]⟩:=fun q=>by rw[q] at hc;revert hc;decide
 have hn1:¬ ((cs.size:Int)=1):=by omega
 by_cases h0:s=⟨#[]⟩
 ·subst h0
  (try simp(maxSteps:=1000000)(disch:=first|omega|(simp only[Z3];omega)|(simp;done)|assumption|decide|(apply not_not_intro;assumption))only[ZB,zo9])
  exact hQ H (Keeps.refl _ _)
 (try simp(maxSteps:=1000000)(disch:=first|omega|(simp only[Z3];omega)|(simp;done)|assumption|decide|(apply not_not_intro;assumption))only[Z1,zcm,zru,zo,zbjy,eq_self,true_and,zp,z3z,zca,zsi,zcg,Heap.get_push_eq,Heap.get_push_lt,Heap.get_set_eq,Heap.get_set_ne',Heap.next_push',Heap.next_set',Heap.set_push_lt,Heap.set_push_eq,Heap.set_set,z1s,z1t,zj7,z1w,z1x,zuo,zya,z1y,z1l,zx8,z1m,z1n,z1o,z1p,List.set_cons_zero,List.set_cons_succ,List.length_cons,List.length_nil,List.drop_succ_cons,List.drop_zero,List.take_succ_cons,List.take_zero,List.nil_append,List.cons_append,splice,zx5,zx6,zun,zrs,zna,zx7,z1u,zx9,zbcy,z7x,z1v,zm,zb9,ze,zk,Option.map_some,z1z,zbc0,zuq,zj,zi,zh,zup,zyb,zyc,zo9,z0u,z0t])
 refine zbyl cs ha hc2 _ fun H1 k1=>?_
 (try simp(maxSteps:=1000000)(disch:=first|omega|(simp only[Z3];omega)|(simp;done)|assumption|decide|(apply not_not_intro;assumption))only[Z1,zcm,zru,zo,zbjy,eq_self,true_and,zp,z3z,zca,zsi,zcg,Heap.get_push_eq,Heap.get_push_lt,Heap.get_set_eq,Heap.get_set_ne',Heap.next_push',Heap.next_set',Heap.set_push_lt,Heap.set_push_eq,Heap.set_set,z1s,z1t,zj7,z1w,z1x,zuo,zya,z1y,z1l,zx8,z1m,z1n,z1o,z1p,List.set_cons_zero,List.set_cons_succ,List.length_cons,List.length_nil,List.drop_succ_cons,List.drop_zero,List.take_succ_cons,List.take_zero,List.nil_append,List.cons_append,splice,zx5,zx6,zun,zrs,zna,zx7,z1u,zx9,zbcy,z7x,z1v,zm,zb9,ze,zk,Option.map_some,z1z,zbc0,zuq,zj,zi,zh,zup,zyb,zyc])
 refine (z1r (by kernel_rfl)).mpr ?_
 have k2:Keeps [] H1 (H1.push (some (.cells true (List.replicate 256 (Value.bool false))))):=Keeps.push _ _ _
 have g2:(H1.push (some (.cells true (List.replicate 256 (Value.bool false))))).get H1.next=some (.cells true (List.replicate 256 (Value.bool false))):=Heap.get_push_self _ _
 have n2:(H1.push (some (.cells true (List.replicate 256 (Value.bool false))))).next=H1.next + 1:=Heap.next_push' ..
 generalize H1.push (some (.cells true (List.replicate 256 (Value.bool false))))=H2 at *
 (try simp(maxSteps:=1000000)(disch:=first|omega|(simp only[Z3];omega)|(simp;done)|assumption|decide|(apply not_not_intro;assumption))only[ZA,zca,zo,zm,zk,zj,zi,zh,ze,zc4 g2 (List.length_replicate) (zly _) (zbkj _)])
 have g3:=Heap.get_set_eq (x:=some (.cells true (zsq (bv cs)))) (show H1.next < H2.next by omega)
 have k3:Keeps [] H1 (H2.set H1.next (some (.cells true (zsq (bv cs))))):=zbw k2 (.inr (Nat.le_refl _))
 generalize H2.set H1.next (some (.cells true (zsq (bv cs))))=H3 at *
 refine zbsd g3 s hs _ ?_
 (try simp(maxSteps:=1000000)(disch:=first|omega|(simp only[Z3];omega)|(simp;done)|assumption|decide|(apply not_not_intro;assumption))only[ZB])
 refine zbse g3 _ (by rw[z3y];have:=zbpz (bv cs) (bv s);rw[zcy] at this;omega) _ ?_
 (try simp(maxSteps:=1000000)(disch:=first|omega|(simp only[Z3];omega)|(simp;done)|assumption|decide|(apply not_not_intro;assumption))only[ZB])
 rw[zrt]
 exact hQ _ (k1.trans k3 (by simp))
theorem zbab {α:Type} (p:α→Bool):∀ l:List α,l.dropWhile p=[]↔∀ b∈l,p b=true
 | []=>by simp
 | a :: l=>by
  rw[List.dropWhile_cons]
  by_cases h:p a=true
  ·rw[if_pos h,zbab p l];simp[h]
  ·rw[if_neg h];simp[h]
theorem zbdx (cs l:List (BitVec 8)):zse cs (zp8 cs l)=[]↔∀ b∈l,inS cs b=true:=by
 unfold zse zp8
 rw[zbab]
 constructor
 ·intro h
  by_cases hn:l.reverse.dropWhile (inS cs)=[]
  ·rw[zbab] at hn
   intro b hb
   exact hn b (by simpa using hb)
  ·have h1:=List.head_dropWhile_not (inS cs) (l:=l.reverse) hn
   have h2:=h ((l.reverse.dropWhile (inS cs)).head hn) (by simp)
   rw[h1] at h2
   exact absurd h2 (by simp)
 ·intro h b hb
  rw[List.mem_reverse] at hb
  have:=(List.dropWhile_sublist (inS cs) (l:=l.reverse)).subset hb
  exact h b (by simpa using this)
end Go.AM.Cap
