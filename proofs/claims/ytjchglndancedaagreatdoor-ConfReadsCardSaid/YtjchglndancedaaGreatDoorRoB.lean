import Derived.Test.YtjchglndancedaaGreatDoorFun2
import Derived.Test.YtjchglndancedaaGreatDoorAmOpenF
set_option linter.all false
/- roles: strings.Trim at a set of ASCII letters -/
set_option maxHeartbeats 8000000
namespace Go.AM.Cap
open Go.AM Go.Proofs
theorem zbuq {cs vs:List V} (h:vs.length=cs.length):splice cs 0 vs=vs:=by
 unfold splice
 rw[List.take_zero,List.nil_append,List.drop_of_length_le (by omega),List.append_nil]
theorem zb3 {H:Heap} {b n:Nat} {cs vs:List V} {Q:V→Heap→Prop} (hg:H.get b=some (.cells true cs)) (h1:cs.length=n) (h2:vs.length=n) (h3:vs.all Value.isOne=true):wp (stn n (ptr b 0) (.agg vs.toArray)) Q H↔Q undef (H.set b (some (.cells true vs))):=by
 rw[zp,hg,z22 h3 h2 (by omega),zbuq (by omega)]
theorem z7 {H:Heap} {b n:Nat} {rw_:Bool} {cs:List V} {Q:V→Heap→Prop} (hg:H.get b=some (.cells rw_ cs)) (h1:cs.length=n):wp (ldn n (ptr b 0)) Q H↔Q (.agg cs.toArray) H:=by
 rw[zbh,hg,zpc (by omega),List.drop_zero,List.take_of_length_le (by omega)]
def inS (cs:List (BitVec 8)) (b:BitVec 8):Bool:=cs.any fun c=>c.toNat == b.toNat
def zuv (cs:List (BitVec 8)):List V:=(List.range 256).map fun j => .bool (cs.any fun c=>c.toNat == j)
theorem zne (cs:List (BitVec 8)):(zuv cs).length=256:=by simp[zuv]
theorem zbzl:zuv []=List.replicate 256 (Value.bool false):=by kernel_rfl
theorem zbsk (cs:List (BitVec 8)):(zuv cs).all Value.isOne=true:=by
 rw[List.all_eq_true]
 intro v hv
 simp only[zuv,List.mem_map] at hv
 obtain⟨j,_,rfl⟩:=hv
 rfl
theorem zbsl (cs:List (BitVec 8)) (b:BitVec 8):(zuv cs)[b.toNat]? = some (.bool (inS cs b)):=by
 have:=b.isLt
 simp only[zuv,List.getElem?_map,List.getElem?_range this,Option.map_some,inS]
theorem zbxd (cs:List (BitVec 8)) (b:BitVec 8):(zuv cs).set b.toNat (.bool true)=zuv (cs ++ [b]):=by
 apply List.ext_getElem?
 intro j
 rw[List.getElem?_set,zne]
 by_cases hj:b.toNat=j
 ·subst hj
  rw[if_pos rfl,if_pos b.isLt,zbsl]
  simp[inS]
 ·rw[if_neg hj]
  simp only[zuv,List.getElem?_map]
  by_cases h:j < 256
  ·rw[List.getElem?_range h]
   simp[hj]
  ·rw[List.getElem?_eq_none (by simpa using h)]
   rfl
theorem zb4q {H:Heap} (s:ByteArray) (ha:∀ b∈bv s,b.toNat < 128) (hs:s.size≤1000000) (Q:V→Heap→Prop) (hQ:∀ H',Keeps [] H H'→Q (.tuple #[.agg (zuv (bv s)).toArray,.bool true]) H'):wp (zg6 [.string s]) Q H:=by
 show wp (zki (.string s)) Q H
 have hb:=zct s
 unfold zki
 rw[z6,z6]
 refine (z52 (by kernel_rfl)).mpr ?_
 rw[← zbzl]
 have k1:Keeps [] H (H.push (some (.cells true (zuv [])))):=Keeps.push _ _ _
 have g1:(H.push (some (.cells true (zuv [])))).get H.next=some (.cells true (zuv [])):=Heap.get_push_self _ _
 have n1:(H.push (some (.cells true (zuv [])))).next=H.next + 1:=by simp
 generalize H.push (some (.cells true (zuv [])))=H1 at *
 (try simp(maxSteps:=1000000)(disch:=first|omega|(simp only[Z3];omega)|(simp;done)|assumption|decide|(apply not_not_intro;assumption))only[ZB])
 refine zfd (Inv:=fun k vs H'=>∃ i:Nat,k=s.size - i∧i≤s.size∧vs=[.string s,ptr H.next 0,i64 i]∧Keeps [] H H'∧H.next < H'.next∧H'.get H.next=some (.cells true (zuv ((bv s).take i)))) (n:=s.size) (by unfold zbs;omega)
  ⟨0,by omega,by omega,rfl,k1,by omega,g1⟩ ?_
 rintro k vs H2 ⟨i,hk,hi,rfl,hk2,hn2,hg2⟩
 by_cases hlt:i < s.size
 case neg =>
  have:i=s.size:=by omega
  subst this
  rw[← hb,List.take_length] at hg2
  have g3:=Heap.get_set_eq (x:=some (.cells true (zuv (bv s)))) hn2
  (try simp(maxSteps:=1000000)(disch:=first|omega|(simp only[Z3];omega)|(simp;done)|assumption|decide|(apply not_not_intro;assumption))only[ZA,zo,zm,zi,zf,zg,zh,zd,zjq,zp7,z7 hg2 (zne _),zb3 hg2 (zne _) (zne _) (zbsk _),z7 g3 (zne _)])
  exact hQ _ (zb1 hk2 (.inr (Nat.le_refl _)))
 have ix:=zi9 (s:=s) (k := .i64) (i:=i) (by omega) (by omega)
 rw[Int.toNat_natCast] at ix
 have hlt':i < (bv s).length:=by omega
 have hmem:(bv s).getD i 0∈bv s:=by
  rw[List.getD_eq_getElem?_getD,List.getElem?_eq_getElem hlt'];exact List.getElem_mem hlt'
 have hsm:=ha _ hmem
 have hst:(bv s).take (i + 1)=(bv s).take i ++ [(bv s).getD i 0]:=by
  rw[List.take_succ,List.getElem?_eq_getElem hlt',List.getD_eq_getElem?_getD,List.getElem?_eq_getElem hlt'];rfl
 generalize (bv s).getD i 0=c at *
 have hia:zzw 256 1 (ptr H.next 0) (B c)=some (ptr H.next c.toNat):=by
  rw[zbjh (by omega) (by omega)];simp
 have hlc:c.toNat < (zuv ((bv s).take i)).length:=by rw[zne];omega
 (try simp(maxSteps:=1000000)(disch:=first|omega|(simp only[Z3];omega)|(simp;done)|assumption|decide|(apply not_not_intro;assumption))only[ZB,zjq,zp6,ix,zp4,hia,hg2,zp5])
 refine⟨s.size - (i + 1),by omega,i + 1,rfl,by omega,by push_cast;rfl,zb1 hk2 (.inr (Nat.le_refl _)),by omega,?_⟩
 rw[hst,← zbxd]
def zrt (cs l:List (BitVec 8)):List (BitVec 8):=(l.reverse.dropWhile (inS cs)).reverse
def zuf (cs l:List (BitVec 8)):List (BitVec 8):=l.dropWhile (inS cs)
theorem zbzm {H:Heap} {b:Nat} {cs:List (BitVec 8)} (hg:H.get b=some (.cells true (zuv cs))) (c:BitVec 8) (Q:V→Heap→Prop) (hQ:Q (.bool (inS cs c)) H):wp (zco [ptr b 0,B c]) Q H:=by
 show wp (zg7 (ptr b 0) (B c)) Q H
 have hlt:=c.isLt
 have hia:zzw 256 1 (ptr b 0) (B c)=some (ptr b c.toNat):=by
  rw[zbjh (by omega) (by omega)];simp
 have hget:=zbsl cs c
 (try simp(maxSteps:=1000000)(disch:=first|omega|(simp only[Z3];omega)|(simp;done)|assumption|decide|(apply not_not_intro;assumption))only[ZB,zg7,hia,hg,hget])
 exact hQ
theorem zbpk (cs l:List (BitVec 8)) (c:BitVec 8):zrt cs (l ++ [c])=if inS cs c then zrt cs l else l ++ [c]:=by
 unfold zrt
 rw[List.reverse_append]
 show (List.dropWhile (inS cs) (c :: l.reverse)).reverse=_
 rw[List.dropWhile_cons]
 split
 ·rfl
 ·simp
theorem zbzn {H:Heap} {b:Nat} {cs:List (BitVec 8)} (hg:H.get b=some (.cells true (zuv cs))) (s:ByteArray) (hs:s.size≤100000000) (Q:V→Heap→Prop) (hQ:Q (.string (sv (zrt cs (bv s)))) H):wp (zf6 [.string s,ptr b 0]) Q H:=by
 show wp (ziu (.string s) (ptr b 0)) Q H
 (try simp(maxSteps:=1000000)(disch:=first|omega|(simp only[Z3];omega)|(simp;done)|assumption|decide|(apply not_not_intro;assumption))only[ZB,ziu])
 refine zfd (Inv:=fun k vs H'=>∃ l:List (BitVec 8),k=l.length∧l.length≤s.size∧vs=[.string (sv l),ptr b 0]∧H'=H∧zrt cs l=zrt cs (bv s)) (n:=s.size) (by unfold zbs;omega)
  ⟨bv s,(zct s).symm,by rw[zct];omega,by rw[zbna],rfl,rfl⟩ ?_
 rintro k vs H' ⟨l,hk,hl,rfl,he,hd⟩
 rw[he];clear he H'
 have hsz:=z9j l
 rcases List.eq_nil_or_concat l with rfl | ⟨m,c,rfl⟩
 ·have hz:¬ (((sv ([]:List (BitVec 8))).size:Int) > 0):=by rw[hsz];simp
  (try simp(maxSteps:=1000000)(disch:=first|omega|(simp only[Z3];omega)|(simp;done)|assumption|decide|(apply not_not_intro;assumption))only[ZB,zia,zib])
  rw[← hd] at hQ
  exact hQ
 ·rw[List.concat_eq_append] at *
  have hln:(m ++ [c]).length=m.length + 1:=by simp
  have ix:=zi9 (s:=sv (m ++ [c])) (k := .i64) (i:=(m.length:Int)) (by omega) (by omega)
  rw[Int.toNat_natCast,z4c,show (m ++ [c]).getD m.length 0=c from by simp] at ix
  have hsub:=zb1y (s:=sv (m ++ [c])) (k' := .i64) (b:=(m.length:Int)) (by omega) (by omega)
  have hv:(sv (m ++ [c])).extract 0 (m.length:Int).toNat=sv m:=by
   apply zbji
   rw[bv_extract,z4c,z4c];simp
  rw[hv] at hsub
  rw[zbpk] at hd
  have e1:(((m ++ [c]).length:Nat):Int) - 1=m.length:=by omega
  (try simp(maxSteps:=1000000)(disch:=first|omega|(simp only[Z3];omega)|(simp;done)|assumption|decide|(apply not_not_intro;assumption))only[ZB,zia,zn9,hsz,e1,ix])
  refine zbzm hg c _ ?_
  cases hin:inS cs c with
  | true =>
   rw[hin,if_pos rfl] at hd
   (try simp(maxSteps:=1000000)(disch:=first|omega|(simp only[Z3];omega)|(simp;done)|assumption|decide|(apply not_not_intro;assumption))only[ZB,zn8,hsz,e1,hsub])
   exact⟨m.length,by omega,m,rfl,by omega,rfl,hd⟩
  | false =>
   rw[hin,if_neg (by simp)] at hd
   have h01:((0:Nat)=1)=False:=by simp
   (try simp(maxSteps:=1000000)(disch:=first|omega|(simp only[Z3];omega)|(simp;done)|assumption|decide|(apply not_not_intro;assumption))only[ZB,h01,if_false,zib])
   rw[← hd] at hQ
   exact hQ
theorem zbzo {H:Heap} {b:Nat} {cs:List (BitVec 8)} (hg:H.get b=some (.cells true (zuv cs))) (s:ByteArray) (hs:s.size≤100000000) (Q:V→Heap→Prop) (hQ:Q (.string (sv (zuf cs (bv s)))) H):wp (zgo [.string s,ptr b 0]) Q H:=by
 show wp (zjr (.string s) (ptr b 0)) Q H
 (try simp(maxSteps:=1000000)(disch:=first|omega|(simp only[Z3];omega)|(simp;done)|assumption|decide|(apply not_not_intro;assumption))only[ZB,zjr])
 refine zfd (Inv:=fun k vs H'=>∃ l:List (BitVec 8),k=l.length∧l.length≤s.size∧vs=[.string (sv l),ptr b 0]∧H'=H∧zuf cs l=zuf cs (bv s)) (n:=s.size) (by unfold zbs;omega)
  ⟨bv s,(zct s).symm,by rw[zct];omega,by rw[zbna],rfl,rfl⟩ ?_
 rintro k vs H' ⟨l,hk,hl,rfl,he,hd⟩
 rw[he];clear he H'
 have hsz:=z9j l
 match l,hk,hl,hd,hsz with
 | [],hk,hl,hd,hsz =>
  have hz:¬ (((sv ([]:List (BitVec 8))).size:Int) > 0):=by rw[hsz];simp
  (try simp(maxSteps:=1000000)(disch:=first|omega|(simp only[Z3];omega)|(simp;done)|assumption|decide|(apply not_not_intro;assumption))only[ZB,ziv,ziw])
  rw[← hd] at hQ
  exact hQ
 | c :: m,hk,hl,hd,hsz =>
  rw[List.length_cons] at hsz hk hl
  have ix:=zi9 (s:=sv (c :: m)) (k := .i64) (i:=0) (by omega) (by omega)
  rw[z4c,show (c :: m).getD (0:Int).toNat 0=c from rfl] at ix
  have hsub:=zb1x (s:=sv (c :: m)) (k := .i64) (a:=1) (by omega) (by omega)
  have hv:(sv (c :: m)).extract (1:Int).toNat (sv (c :: m)).size=sv m:=by
   apply zbji
   rw[bv_extract,z4c,z4c,hsz];simp
  rw[hv] at hsub
  have hdl:zuf cs (c :: m)=if inS cs c then zuf cs m else c :: m:=by
   unfold zuf;rw[List.dropWhile_cons]
  rw[hdl] at hd
  (try simp(maxSteps:=1000000)(disch:=first|omega|(simp only[Z3];omega)|(simp;done)|assumption|decide|(apply not_not_intro;assumption))only[ZB,ziv,zos,hsz,ix])
  refine zbzm hg c _ ?_
  cases hin:inS cs c with
  | true =>
   rw[hin,if_pos rfl] at hd
   (try simp(maxSteps:=1000000)(disch:=first|omega|(simp only[Z3];omega)|(simp;done)|assumption|decide|(apply not_not_intro;assumption))only[ZB,zor,hsub])
   exact⟨m.length,by omega,m,rfl,by omega,rfl,hd⟩
  | false =>
   rw[hin,if_neg (by simp)] at hd
   have h01:((0:Nat)=1)=False:=by simp
   (try simp(maxSteps:=1000000)(disch:=first|omega|(simp only[Z3];omega)|(simp;done)|assumption|decide|(apply not_not_intro;assumption))only[ZB,h01,if_false,ziw])
   rw[← hd] at hQ
   exact hQ
theorem zbxe (cs l:List (BitVec 8)):(zrt cs l).length≤l.length:=by
 unfold zrt
 rw[List.length_reverse]
 have:=(List.dropWhile_sublist (inS cs) (l:=l.reverse)).length_le
 rwa[List.length_reverse] at this
theorem zbpl {H:Heap} {G:List V→M V} (s cs:ByteArray) (hs:s.size≤100000000) (ha:∀ b∈bv cs,b.toNat < 128) (hc:2≤cs.size) (hc2:cs.size≤1000000) (Q:V→Heap→Prop) (hQ:∀ H',Keeps [] H H'→Q (.string (sv (zuf (bv cs) (zrt (bv cs) (bv s))))) H'):wp (zgf G [.string s,.string cs]) Q H:=by
 show wp (zqs G (.string s) (.string cs)) Q H
 have hne:¬ cs=⟨#[]⟩:=fun q=>by rw[q] at hc;revert hc;decide
 have hn1:¬ ((cs.size:Int)=1):=by omega
 by_cases h0:s=⟨#[]⟩
 ·subst h0
  (try simp(maxSteps:=1000000)(disch:=first|omega|(simp only[Z3];omega)|(simp;done)|assumption|decide|(apply not_not_intro;assumption))only[ZB,zqs])
  exact hQ H (Keeps.refl _ _)
 (try simp(maxSteps:=1000000)(disch:=first|omega|(simp only[Z3];omega)|(simp;done)|assumption|decide|(apply not_not_intro;assumption))only[Z1,zbj,zpz,zo,zbnc,eq_self,true_and,zp,z22,zbh,zpc,zby,Heap.get_push_eq,Heap.get_push_lt,Heap.get_set_eq,Heap.get_set_ne',Heap.next_push',Heap.next_set',Heap.set_push_lt,Heap.set_push_eq,Heap.set_set,z1p,z1q,zie,z1u,z1v,zsi,zwl,z1w,z1k,zwi,z1l,z1m,z1n,z1o,List.set_cons_zero,List.set_cons_succ,List.length_cons,List.length_nil,List.drop_succ_cons,List.drop_zero,List.take_succ_cons,List.take_zero,List.nil_append,List.cons_append,splice,zwf,zwg,zsg,zpy,zk4,zwh,z1r,zwj,zbgo,z9k,z1s,zm,zba,zd,zi,Option.map_some,zbeg,zbeh,zsk,zf,zg,zh,zsj,zwm,zwn,zqs,z4t,z4s])
 refine zb4q cs ha hc2 _ fun H1 k1=>?_
 (try simp(maxSteps:=1000000)(disch:=first|omega|(simp only[Z3];omega)|(simp;done)|assumption|decide|(apply not_not_intro;assumption))only[Z1,zbj,zpz,zo,zbnc,eq_self,true_and,zp,z22,zbh,zpc,zby,Heap.get_push_eq,Heap.get_push_lt,Heap.get_set_eq,Heap.get_set_ne',Heap.next_push',Heap.next_set',Heap.set_push_lt,Heap.set_push_eq,Heap.set_set,z1p,z1q,zie,z1u,z1v,zsi,zwl,z1w,z1k,zwi,z1l,z1m,z1n,z1o,List.set_cons_zero,List.set_cons_succ,List.length_cons,List.length_nil,List.drop_succ_cons,List.drop_zero,List.take_succ_cons,List.take_zero,List.nil_append,List.cons_append,splice,zwf,zwg,zsg,zpy,zk4,zwh,z1r,zwj,zbgo,z9k,z1s,zm,zba,zd,zi,Option.map_some,zbeg,zbeh,zsk,zf,zg,zh,zsj,zwm,zwn])
 refine (z52 (by kernel_rfl)).mpr ?_
 have k2:Keeps [] H1 (H1.push (some (.cells true (List.replicate 256 (Value.bool false))))):=Keeps.push _ _ _
 have g2:(H1.push (some (.cells true (List.replicate 256 (Value.bool false))))).get H1.next=some (.cells true (List.replicate 256 (Value.bool false))):=Heap.get_push_self _ _
 have n2:(H1.push (some (.cells true (List.replicate 256 (Value.bool false))))).next=H1.next + 1:=Heap.next_push' ..
 generalize H1.push (some (.cells true (List.replicate 256 (Value.bool false))))=H2 at *
 (try simp(maxSteps:=1000000)(disch:=first|omega|(simp only[Z3];omega)|(simp;done)|assumption|decide|(apply not_not_intro;assumption))only[ZA,zbh,zo,zm,zi,zf,zg,zh,zd,zb3 g2 (List.length_replicate) (zne _) (zbsk _)])
 have g3:=Heap.get_set_eq (x:=some (.cells true (zuv (bv cs)))) (show H1.next < H2.next by omega)
 have k3:Keeps [] H1 (H2.set H1.next (some (.cells true (zuv (bv cs))))):=zb1 k2 (.inr (Nat.le_refl _))
 generalize H2.set H1.next (some (.cells true (zuv (bv cs))))=H3 at *
 refine zbzn g3 s hs _ ?_
 (try simp(maxSteps:=1000000)(disch:=first|omega|(simp only[Z3];omega)|(simp;done)|assumption|decide|(apply not_not_intro;assumption))only[ZB])
 refine zbzo g3 _ (by rw[z9j];have:=zbxe (bv cs) (bv s);rw[zct] at this;omega) _ ?_
 (try simp(maxSteps:=1000000)(disch:=first|omega|(simp only[Z3];omega)|(simp;done)|assumption|decide|(apply not_not_intro;assumption))only[ZB])
 rw[z4c]
 exact hQ _ (k1.trans k3 (by simp))
theorem zbg8 {α:Type} (p:α→Bool):∀ l:List α,l.dropWhile p=[]↔∀ b∈l,p b=true
 | []=>by simp
 | a :: l=>by
  rw[List.dropWhile_cons]
  by_cases h:p a=true
  ·rw[if_pos h,zbg8 p l];simp[h]
  ·rw[if_neg h];simp[h]
theorem zbkb (cs l:List (BitVec 8)):zuf cs (zrt cs l)=[]↔∀ b∈l,inS cs b=true:=by
 unfold zuf zrt
 rw[zbg8]
 constructor
 ·intro h
  by_cases hn:l.reverse.dropWhile (inS cs)=[]
  ·rw[zbg8] at hn
   intro b hb
   exact hn b (by simpa using hb)
  ·have h1:=List.head_dropWhile_not (inS cs) (l:=l.reverse) hn
   have h2:=h ((l.reverse.dropWhile (inS cs)).head hn) (by simp)
   rw[h1] at h2
   exact absurd h2 (by simp)
 ·intro h b hb
  rw[List.mem_reverse] at hb
  have:=(List.dropWhile_sublist (inS cs) (l:=l.reverse)).subset hb
  exact h b (by simpa using this)
end Go.AM.Cap

/- roles: users; Find, level, wrong, formed, Check -/
set_option maxHeartbeats 8000000
namespace Go.AM.Cap
open Go.AM Go.Proofs
structure Rl where
 part:Int
 level:Int
deriving DecidableEq
instance:Inhabited Rl:=⟨⟨0,0⟩⟩
instance:Flat Rl:=⟨2,fun r=>[i64 r.part,i64 r.level],fun _=>rfl,fun _=>rfl,by decide⟩
theorem zbdi (r:Rl):Flat.enc r=[i64 r.part,i64 r.level]:=rfl
structure Us where
 name:ByteArray
 key:ByteArray
 rs:In Rl
instance:Inhabited Us:=⟨⟨⟨#[]⟩,⟨#[]⟩,default⟩⟩
instance:Flat Us:=⟨3,fun u=>[.string u.name,.string u.key,u.rs.v],fun _=>rfl,fun u=>by simp[u.rs.one],by decide⟩
theorem z3z (u:Us):Flat.enc u=[.string u.name,.string u.key,u.rs.v]:=rfl
theorem z82 (u:Us):([.string u.name,.string u.key,u.rs.v]:List V).all Value.isOne=true:=by simp[u.rs.one]
structure Users (H:Heap) (v:V) (l:List Us):Prop where
 out:Sl H v l
 inn:∀ u∈l,Sl H u.rs.v u.rs.xs∧u.rs.xs.length≤1048576
theorem Users.keep0 {H H':Heap} {v:V} {l:List Us} (h:Users H v l) (hk:Keeps [] H H'):Users H' v l:=⟨h.out.keep0 hk,fun u hu=>⟨(h.inn u hu).1.keep0 hk,(h.inn u hu).2⟩⟩
theorem zci {α:Type} {l:List α} {i:Nat} {d:α} (h:i < l.length):l.getD i d∈l:=by
 rw[List.getD_eq_getElem?_getD,List.getElem?_eq_getElem h];exact List.getElem_mem h
theorem Users.at {H:Heap} {v:V} {l:List Us} (h:Users H v l) {i:Nat} (hi:i < l.length):Sl H (l.getD i default).rs.v (l.getD i default).rs.xs∧(l.getD i default).rs.xs.length≤1048576:=h.inn _ (zci hi)
def zhl {α:Type} (p:α→Bool):List α→Option Nat
 | []=>none
 | x :: l=>if p x then some 0 else (zhl p l).map (· + 1)
def zk2:Option Nat→Int
 | none=>-1
 | some i=>i
theorem zwo {α:Type} {p:α→Bool} {d:α}:∀ {l:List α} {i:Nat},i < l.length→p (l.getD i d)=true→(∀ j,j < i→p (l.getD j d)=false)→zhl p l=some i
 | [],i,h,_,_=>by simp at h
 | x :: l,0,_,hp,_=>by
  have:p x=true:=hp
  simp[zhl,this]
 | x :: l,i + 1,h,hp,hn=>by
  have h0:p x=false:=hn 0 (by omega)
  have:=zwo (p:=p) (d:=d) (l:=l) (i:=i) (by simpa using h) (by simpa using hp) (fun j hj=>by simpa using hn (j + 1) (by omega))
  simp[zhl,h0,this]
theorem zsv {α:Type} {p:α→Bool}:∀ {l:List α},zhl p l=none↔∀ x∈l,p x=false
 | []=>by simp[zhl]
 | x :: l=>by
  unfold zhl
  by_cases h:p x=true
  ·rw[if_pos h];simp[h]
  ·rw[if_neg h,Option.map_eq_none_iff,zsv];simp[h]
theorem z9o {α:Type} {p:α→Bool} {d:α}:∀ {l:List α} {i:Nat},zhl p l=some i→i < l.length∧p (l.getD i d)=true∧∀ j,j < i→p (l.getD j d)=false
 | [],i,h=>by cases h
 | x :: l,i,h=>by
  unfold zhl at h
  by_cases hp:p x=true
  ·rw[if_pos hp] at h
   cases h
   exact⟨by simp,hp,by omega⟩
  ·rw[if_neg hp] at h
   obtain⟨j,hj,rfl⟩:=Option.map_eq_some_iff.1 h
   obtain⟨h1,h2,h3⟩:=z9o (d:=d) hj
   refine⟨by simpa using h1,by simpa using h2,fun k hk=>?_⟩
   cases k with
   | zero=>simpa using hp
   | succ k=>simpa using h3 k (by omega)
theorem zbft {α:Type} {p:α→Bool} {d:α} {l:List α} (h:∀ j,j < l.length→p (l.getD j d)=false):zhl p l=none:=by
 rw[zsv]
 intro x hx
 obtain⟨j,hj,rfl⟩:=List.getElem_of_mem hx
 have:=h j hj
 rwa[List.getD_eq_getElem?_getD,List.getElem?_eq_getElem hj] at this
theorem zb13 {S:zv} {f:V} {H:Heap} {v:V} {l:List Us} (h:Sl H v l) (hl:l.length≤1000000000) (p:Us→Bool) (hp:∀ (H2:Heap) (x:Us) (Q:V→Heap→Prop),Keeps [] H H2→(∀ H',Keeps [] H2 H'→Q (.bool (p x)) H')→wp (zn4 (ovr [] S) f [.agg (Flat.enc x).toArray]) Q H2)
  (Q:V→Heap→Prop) (hQ:∀ H',Keeps [] H H'→Q (i64 (zk2 (zhl p l))) H'):wp (zcm S [v,f]) Q H:=by
 show wp (zdq S v f) Q H
 have hlen:=h.len
 (try simp(maxSteps:=1000000)(disch:=first|omega|(simp only[Z3];omega)|(simp;done)|assumption|decide|(apply not_not_intro;assumption))only[ZB,zdq,hlen])
 refine zfd (Inv:=fun k vs H'=>∃ j:Nat,k=l.length - j∧j≤l.length∧vs=[v,f,i64 l.length,i64 j]∧Keeps [] H H'∧(∀ i,i < j→p (l.getD i default)=false)) (n:=l.length) (by unfold zbs;omega)
  ⟨0,by omega,by omega,rfl,Keeps.refl _ _,by omega⟩ ?_
 rintro k vs H1 ⟨j,hk,hj,rfl,hk1,hn⟩
 by_cases hlt:j < l.length
 case neg =>
  have:j=l.length:=by omega
  subst this
  have e:zk2 (zhl p l) = -1:=by rw[zbft hn];rfl
  (try simp(maxSteps:=1000000)(disch:=first|omega|(simp only[Z3];omega)|(simp;done)|assumption|decide|(apply not_not_intro;assumption))only[ZB,zdd,zf4])
  rw[e] at hQ
  exact hQ _ hk1
 have a1:=(h.keep0 hk1).addr' (n:=3) rfl (k := .i64) (i:=j) (by omega) (by omega)
 rw[Int.toNat_natCast] at a1
 have d1:=fun Q=>(h.keep0 hk1).ldn' (Q:=Q) (n:=3) rfl hlt default
 (try simp(maxSteps:=1000000)(disch:=first|omega|(simp only[Z3];omega)|(simp;done)|assumption|decide|(apply not_not_intro;assumption))only[ZA,zp,zo,zm,zi,zf,zg,zh,zd,zdd,zf3,a1,d1])
 refine hp H1 _ _ hk1 fun H2 k2=>?_
 cases hq:p (l.getD j default) with
 | true =>
  have e:zk2 (zhl p l)=j:=by rw[zwo hlt hq hn];rfl
  rw[e] at hQ
  (try simp(maxSteps:=1000000)(disch:=first|omega|(simp only[Z3];omega)|(simp;done)|assumption|decide|(apply not_not_intro;assumption))only[ZB])
  exact hQ _ (hk1.trans k2 (by simp))
 | false =>
  (try simp(maxSteps:=1000000)(disch:=first|omega|(simp only[Z3];omega)|(simp;done)|assumption|decide|(apply not_not_intro;assumption))only[ZB,zf2])
  refine⟨l.length - (j + 1),by omega,j + 1,rfl,by omega,by push_cast;rfl,hk1.trans k2 (by simp),fun i hi=>?_⟩
  rcases Nat.lt_or_eq_of_le (Nat.lt_succ_iff.1 hi) with q | rfl
  ·exact hn i q
  ·exact hq
def z2i (l:List Us) (n:ByteArray):Option Nat:=zhl (fun u=>decide (u.name=n)) l
theorem zb14 {H:Heap} {v:V} {l:List Us} (h:Sl H v l) (hl:l.length≤1000000000) (n:ByteArray) (Q:V→Heap→Prop)
  (hQ:∀ H',Keeps [] H H'→Q (match z2i l n with | none => .tuple #[i64 0,i64 90] | some i => .tuple #[i64 i,i64 0]) H'):wp (zvz [v,.string n]) Q H:=by
 show wp (z3m v (.string n)) Q H
 have k1:Keeps [] H (H.push (some (.cells true [.string n]))):=Keeps.push _ _ _
 have g1:(H.push (some (.cells true [.string n]))).get H.next=some (.cells true [.string n]):=Heap.get_push_self _ _
 unfold z3m
 rw[z6,z6]
 refine (zbij (by rfl)).mpr ?_
 generalize H.push (some (.cells true [.string n]))=H1 at *
 (try simp(maxSteps:=1000000)(disch:=first|omega|(simp only[Z3];omega)|(simp;done)|assumption|decide|(apply not_not_intro;assumption))only[ZB])
 refine zb13 (h.keep0 k1) hl (fun u=>decide (u.name=n)) (fun H2 x Q k2 hq=>?_) _ fun H2 k2=>?_
 ·have g2:=k2.get g1 (by simp)
  have ho:=z82 x
  have hn2:H.next < H2.next:=by have:=Heap.get_lt g1;have:=k2.next;omega
  show wp (zq9 [.agg (Flat.enc x).toArray,ptr H.next 0]) Q H2
  show wp (zxu (.agg (Flat.enc x).toArray) (ptr H.next 0)) Q H2
  (try simp(maxSteps:=1000000)(disch:=first|omega|(simp only[Z3];omega)|(simp;done)|assumption|decide|(apply not_not_intro;assumption))only[ZB,zxu,z3z,g2])
  exact hq _ (Keeps.push _ _ _)
 ·have hq:=hQ H2 (k1.trans k2 (by simp))
  unfold z2i at hq
  cases hf:zhl (fun u=>decide (u.name=n)) l with
  | none =>
   rw[hf] at hq
   (try simp(maxSteps:=1000000)(disch:=first|omega|(simp only[Z3];omega)|(simp;done)|assumption|decide|(apply not_not_intro;assumption))only[ZB,zk2])
   exact hq
  | some i =>
   rw[hf] at hq
   have:¬ ((i:Int) < 0):=by omega
   (try simp(maxSteps:=1000000)(disch:=first|omega|(simp only[Z3];omega)|(simp;done)|assumption|decide|(apply not_not_intro;assumption))only[ZB,zk2,zbbj])
   exact hq
end Go.AM.Cap
