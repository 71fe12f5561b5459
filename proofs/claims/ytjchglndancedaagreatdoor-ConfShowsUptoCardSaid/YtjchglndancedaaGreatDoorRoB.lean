import Derived.Test.YtjchglndancedaaGreatDoorFun2
import Derived.Test.YtjchglndancedaaGreatDoorAmIn
set_option linter.all false
/- roles: strings.Trim at a set of ASCII letters -/
set_option maxHeartbeats 8000000
namespace Go.AM.Cap
open Go.AM Go.Proofs
theorem zbub {cs vs:List V} (h:vs.length=cs.length):splice cs 0 vs=vs:=by
 unfold splice
 rw[List.take_zero,List.nil_append,List.drop_of_length_le (by omega),List.append_nil]
theorem zft {H:Heap} {b n:Nat} {cs vs:List V} {Q:V→Heap→Prop} (hg:H.get b=some (.cells true cs)) (h1:cs.length=n) (h2:vs.length=n) (h3:vs.all Value.isOne=true):wp (stn n (ptr b 0) (.agg vs.toArray)) Q H↔Q undef (H.set b (some (.cells true vs))):=by
 rw[zo,hg,zbha h3 h2 (by omega),zbub (by omega)]
theorem zbb {H:Heap} {b n:Nat} {rw_:Bool} {cs:List V} {Q:V→Heap→Prop} (hg:H.get b=some (.cells rw_ cs)) (h1:cs.length=n):wp (ldn n (ptr b 0)) Q H↔Q (.agg cs.toArray) H:=by
 rw[zbz,hg,zy2 (by omega),List.drop_zero,List.take_of_length_le (by omega)]
def inS (cs:List (BitVec 8)) (b:BitVec 8):Bool:=cs.any fun c=>c.toNat == b.toNat
def zui (cs:List (BitVec 8)):List V:=(List.range 256).map fun j => .bool (cs.any fun c=>c.toNat == j)
theorem zm1 (cs:List (BitVec 8)):(zui cs).length=256:=by simp[zui]
theorem zbzw:zui []=List.replicate 256 (Value.bool false):=by kernel_rfl
theorem zbru (cs:List (BitVec 8)):(zui cs).all Value.isOne=true:=by
 rw[List.all_eq_true]
 intro v hv
 simp only[zui,List.mem_map] at hv
 obtain⟨j,_,rfl⟩:=hv
 rfl
theorem zbrv (cs:List (BitVec 8)) (b:BitVec 8):(zui cs)[b.toNat]? = some (.bool (inS cs b)):=by
 have:=b.isLt
 simp only[zui,List.getElem?_map,List.getElem?_range this,Option.map_some,inS]
theorem zbxj (cs:List (BitVec 8)) (b:BitVec 8):(zui cs).set b.toNat (.bool true)=zui (cs ++ [b]):=by
 apply List.ext_getElem?
 intro j
 rw[List.getElem?_set,zm1]
 by_cases hj:b.toNat=j
 ·subst hj
  rw[if_pos rfl,if_pos b.isLt,zbrv]
  simp[inS]
 ·rw[if_neg hj]
  simp only[zui,List.getElem?_map]
  by_cases h:j < 256
  ·rw[List.getElem?_range h]
   simp[hj]
  ·rw[List.getElem?_eq_none (by simpa using h)]
   rfl
theorem zb5o {H:Heap} (s:ByteArray) (ha:∀ b∈bv s,b.toNat < 128) (hs:s.size≤1000000) (Q:V→Heap→Prop) (hQ:∀ H',Keeps [] H H'→Q (.tuple #[.agg (zui (bv s)).toArray,.bool true]) H'):wp (zgz [.string s]) Q H:=by
 show wp (zj1 (.string s)) Q H
 have hb:=zci s
 unfold zj1
 rw[z7,z7]
 refine (zbih (by kernel_rfl)).mpr ?_
 rw[← zbzw]
 have k1:Keeps [] H (H.push (some (.cells true (zui [])))):=Keeps.push _ _ _
 have g1:(H.push (some (.cells true (zui [])))).get H.next=some (.cells true (zui [])):=Heap.get_push_self _ _
 have n1:(H.push (some (.cells true (zui [])))).next=H.next + 1:=by simp
 generalize H.push (some (.cells true (zui [])))=H1 at *
 (try simp (maxSteps:=999999) (disch:=try exact ZD) only[ZB])
 refine zd6 (Inv:=fun k vs H'=>∃ i:Nat,k=s.size - i∧i≤s.size∧vs=[.string s,ptr H.next 0,i64 i]∧Keeps [] H H'∧H.next < H'.next∧H'.get H.next=some (.cells true (zui ((bv s).take i)))) (n:=s.size) (by unfold zbm;omega)
  ⟨0,by omega,by omega,rfl,k1,by omega,g1⟩ ?_
 rintro k vs H2 ⟨i,hk,hi,rfl,hk2,hn2,hg2⟩
 by_cases hlt:i < s.size
 case neg =>
  have:i=s.size:=by omega
  subst this
  rw[← hb,List.take_length] at hg2
  have g3:=Heap.get_set_eq (x:=some (.cells true (zui (bv s)))) hn2
  (try simp (maxSteps:=999999) (disch:=try exact ZD) only[ZA,zn,zm,zk,zi,zj,zg,ze,zi9,zp4,zbb hg2 (zm1 _),zft hg2 (zm1 _) (zm1 _) (zbru _),zbb g3 (zm1 _)])
  exact hQ _ (zb7 hk2 (.inr (Nat.le_refl _)))
 have ix:=ztb (s:=s) (k := .i64) (i:=i) (by omega) (by omega)
 rw[Int.toNat_natCast] at ix
 have hlt':i < (bv s).length:=by omega
 have hmem:(bv s).getD i 0∈bv s:=by
  rw[List.getD_eq_getElem?_getD,List.getElem?_eq_getElem hlt'];exact List.getElem_mem hlt'
 have hsm:=ha _ hmem
 have hst:(bv s).take (i + 1)=(bv s).take i ++ [(bv s).getD i 0]:=by
  rw[List.take_succ,List.getElem?_eq_getElem hlt',List.getD_eq_getElem?_getD,List.getElem?_eq_getElem hlt'];rfl
 generalize (bv s).getD i 0=c at *
 have hia:zn5 256 1 (ptr H.next 0) (B c)=some (ptr H.next c.toNat):=by
  rw[zbia (by omega) (by omega)];simp
 have hlc:c.toNat < (zui ((bv s).take i)).length:=by rw[zm1];omega
 (try simp (maxSteps:=999999) (disch:=try exact ZD) only[ZB,zi9,zp3,ix,zp1,hia,hg2,zp2])
 refine⟨s.size - (i + 1),by omega,i + 1,rfl,by omega,by push_cast;rfl,zb7 hk2 (.inr (Nat.le_refl _)),by omega,?_⟩
 rw[hst,← zbxj]
def zr3 (cs l:List (BitVec 8)):List (BitVec 8):=(l.reverse.dropWhile (inS cs)).reverse
def zt6 (cs l:List (BitVec 8)):List (BitVec 8):=l.dropWhile (inS cs)
theorem zbzx {H:Heap} {b:Nat} {cs:List (BitVec 8)} (hg:H.get b=some (.cells true (zui cs))) (c:BitVec 8) (Q:V→Heap→Prop) (hQ:Q (.bool (inS cs c)) H):wp (zcq [ptr b 0,B c]) Q H:=by
 show wp (zg0 (ptr b 0) (B c)) Q H
 have hlt:=c.isLt
 have hia:zn5 256 1 (ptr b 0) (B c)=some (ptr b c.toNat):=by
  rw[zbia (by omega) (by omega)];simp
 have hget:=zbrv cs c
 (try simp (maxSteps:=999999) (disch:=try exact ZD) only[ZB,zg0,hia,hg,hget])
 exact hQ
theorem zbop (cs l:List (BitVec 8)) (c:BitVec 8):zr3 cs (l ++ [c])=if inS cs c then zr3 cs l else l ++ [c]:=by
 unfold zr3
 rw[List.reverse_append]
 show (List.dropWhile (inS cs) (c :: l.reverse)).reverse=_
 rw[List.dropWhile_cons]
 split
 ·rfl
 ·simp
theorem zbzy {H:Heap} {b:Nat} {cs:List (BitVec 8)} (hg:H.get b=some (.cells true (zui cs))) (s:ByteArray) (hs:s.size≤100000000) (Q:V→Heap→Prop) (hQ:Q (.string (sv (zr3 cs (bv s)))) H):wp (zf0 [.string s,ptr b 0]) Q H:=by
 show wp (zio (.string s) (ptr b 0)) Q H
 (try simp (maxSteps:=999999) (disch:=try exact ZD) only[ZB,zio])
 refine zd6 (Inv:=fun k vs H'=>∃ l:List (BitVec 8),k=l.length∧l.length≤s.size∧vs=[.string (sv l),ptr b 0]∧H'=H∧zr3 cs l=zr3 cs (bv s)) (n:=s.size) (by unfold zbm;omega)
  ⟨bv s,(zci s).symm,by rw[zci];omega,by rw[zbmk],rfl,rfl⟩ ?_
 rintro k vs H' ⟨l,hk,hl,rfl,he,hd⟩
 rw[he];clear he H'
 have hsz:=zbcl l
 rcases List.eq_nil_or_concat l with rfl | ⟨m,c,rfl⟩
 ·have hz:¬ (((sv ([]:List (BitVec 8))).size:Int) > 0):=by rw[hsz];simp
  (try simp (maxSteps:=999999) (disch:=try exact ZD) only[ZB,zh8,zh9])
  rw[← hd] at hQ
  exact hQ
 ·rw[List.concat_eq_append] at *
  have hln:(m ++ [c]).length=m.length + 1:=by simp
  have ix:=ztb (s:=sv (m ++ [c])) (k := .i64) (i:=(m.length:Int)) (by omega) (by omega)
  rw[Int.toNat_natCast,z4l,show (m ++ [c]).getD m.length 0=c from by simp] at ix
  have hsub:=zb2e (s:=sv (m ++ [c])) (k' := .i64) (b:=(m.length:Int)) (by omega) (by omega)
  have hv:(sv (m ++ [c])).extract 0 (m.length:Int).toNat=sv m:=by
   apply zbnq
   rw[bv_extract,z4l,z4l];simp
  rw[hv] at hsub
  rw[zbop] at hd
  have e1:(((m ++ [c]).length:Nat):Int) - 1=m.length:=by omega
  (try simp (maxSteps:=999999) (disch:=try exact ZD) only[ZB,zh8,zn1,hsz,e1,ix])
  refine zbzx hg c _ ?_
  cases hin:inS cs c with
  | true =>
   rw[hin,if_pos rfl] at hd
   (try simp (maxSteps:=999999) (disch:=try exact ZD) only[ZB,zn0,hsz,e1,hsub])
   exact⟨m.length,by omega,m,rfl,by omega,rfl,hd⟩
  | false =>
   rw[hin,if_neg (by simp)] at hd
   have h01:((0:Nat)=1)=False:=by simp
   (try simp (maxSteps:=999999) (disch:=try exact ZD) only[ZB,h01,if_false,zh9])
   rw[← hd] at hQ
   exact hQ
theorem zbzz {H:Heap} {b:Nat} {cs:List (BitVec 8)} (hg:H.get b=some (.cells true (zui cs))) (s:ByteArray) (hs:s.size≤100000000) (Q:V→Heap→Prop) (hQ:Q (.string (sv (zt6 cs (bv s)))) H):wp (zgg [.string s,ptr b 0]) Q H:=by
 show wp (zja (.string s) (ptr b 0)) Q H
 (try simp (maxSteps:=999999) (disch:=try exact ZD) only[ZB,zja])
 refine zd6 (Inv:=fun k vs H'=>∃ l:List (BitVec 8),k=l.length∧l.length≤s.size∧vs=[.string (sv l),ptr b 0]∧H'=H∧zt6 cs l=zt6 cs (bv s)) (n:=s.size) (by unfold zbm;omega)
  ⟨bv s,(zci s).symm,by rw[zci];omega,by rw[zbmk],rfl,rfl⟩ ?_
 rintro k vs H' ⟨l,hk,hl,rfl,he,hd⟩
 rw[he];clear he H'
 have hsz:=zbcl l
 match l,hk,hl,hd,hsz with
 | [],hk,hl,hd,hsz =>
  have hz:¬ (((sv ([]:List (BitVec 8))).size:Int) > 0):=by rw[hsz];simp
  (try simp (maxSteps:=999999) (disch:=try exact ZD) only[ZB,ziq,zir])
  rw[← hd] at hQ
  exact hQ
 | c :: m,hk,hl,hd,hsz =>
  rw[List.length_cons] at hsz hk hl
  have ix:=ztb (s:=sv (c :: m)) (k := .i64) (i:=0) (by omega) (by omega)
  rw[z4l,show (c :: m).getD (0:Int).toNat 0=c from rfl] at ix
  have hsub:=zb2d (s:=sv (c :: m)) (k := .i64) (a:=1) (by omega) (by omega)
  have hv:(sv (c :: m)).extract (1:Int).toNat (sv (c :: m)).size=sv m:=by
   apply zbnq
   rw[bv_extract,z4l,z4l,hsz];simp
  rw[hv] at hsub
  have hdl:zt6 cs (c :: m)=if inS cs c then zt6 cs m else c :: m:=by
   unfold zt6;rw[List.dropWhile_cons]
  rw[hdl] at hd
  (try simp (maxSteps:=999999) (disch:=try exact ZD) only[ZB,ziq,zor,hsz,ix])
  refine zbzx hg c _ ?_
  cases hin:inS cs c with
  | true =>
   rw[hin,if_pos rfl] at hd
   (try simp (maxSteps:=999999) (disch:=try exact ZD) only[ZB,zoq,hsub])
   exact⟨m.length,by omega,m,rfl,by omega,rfl,hd⟩
  | false =>
   rw[hin,if_neg (by simp)] at hd
   have h01:((0:Nat)=1)=False:=by simp
   (try simp (maxSteps:=999999) (disch:=try exact ZD) only[ZB,h01,if_false,zir])
   rw[← hd] at hQ
   exact hQ
theorem zbxk (cs l:List (BitVec 8)):(zr3 cs l).length≤l.length:=by
 unfold zr3
 rw[List.length_reverse]
 have:=(List.dropWhile_sublist (inS cs) (l:=l.reverse)).length_le
 rwa[List.length_reverse] at this
theorem zboq {H:Heap} {G:List V→M V} (s cs:ByteArray) (hs:s.size≤100000000) (ha:∀ b∈bv cs,b.toNat < 128) (hc:2≤cs.size) (hc2:cs.size≤1000000) (Q:V→Heap→Prop) (hQ:∀ H',Keeps [] H H'→Q (.string (sv (zt6 (bv cs) (zr3 (bv cs) (bv s))))) H'):wp (zf9 G [.string s,.string cs]) Q H:=by
 show wp (zqw G (.string s) (.string cs)) Q H
 have hne:¬ cs=⟨#[]⟩:=fun q=>by rw[q] at hc;revert hc;decide
 have hn1:¬ ((cs.size:Int)=1):=by omega
 by_cases h0:s=⟨#[]⟩
 ·subst h0
  (try simp (maxSteps:=999999) (disch:=try exact ZD) only[ZB,zqw])
  exact hQ H (Keeps.refl _ _)
 (try simp (maxSteps:=999999) (disch:=try exact ZD) only[Z1,zbd,z4n,zn,zbzq,eq_self,true_and,zo,zbha,zbz,zy2,zb0,Heap.get_push_eq,Heap.get_push_lt,Heap.get_set_eq,Heap.get_set_ne',Heap.next_push',Heap.next_set',Heap.set_push_lt,Heap.set_push_eq,Heap.set_set,zbii,zbij,z0c,zbim,zbin,zbar,zbe2,zbio,zbib,zbey,zbic,zbid,zbie,zbif,List.set_cons_zero,List.set_cons_succ,List.length_cons,List.length_nil,List.drop_succ_cons,List.drop_zero,List.take_succ_cons,List.take_zero,List.nil_append,List.cons_append,splice,zbev,zbew,zbaq,z4k,zy1,zbex,zbik,zbe1,zbtw,zbns,zbil,zm,zb1,ze,zk,Option.map_some,z4o,zbip,zbat,zi,zj,zg,zbas,zbe3,zbe4,zqw,z3b,z3a])
 refine zb5o cs ha hc2 _ fun H1 k1=>?_
 (try simp (maxSteps:=999999) (disch:=try exact ZD) only[Z1,zbd,z4n,zn,zbzq,eq_self,true_and,zo,zbha,zbz,zy2,zb0,Heap.get_push_eq,Heap.get_push_lt,Heap.get_set_eq,Heap.get_set_ne',Heap.next_push',Heap.next_set',Heap.set_push_lt,Heap.set_push_eq,Heap.set_set,zbii,zbij,z0c,zbim,zbin,zbar,zbe2,zbio,zbib,zbey,zbic,zbid,zbie,zbif,List.set_cons_zero,List.set_cons_succ,List.length_cons,List.length_nil,List.drop_succ_cons,List.drop_zero,List.take_succ_cons,List.take_zero,List.nil_append,List.cons_append,splice,zbev,zbew,zbaq,z4k,zy1,zbex,zbik,zbe1,zbtw,zbns,zbil,zm,zb1,ze,zk,Option.map_some,z4o,zbip,zbat,zi,zj,zg,zbas,zbe3,zbe4])
 refine (zbih (by kernel_rfl)).mpr ?_
 have k2:Keeps [] H1 (H1.push (some (.cells true (List.replicate 256 (Value.bool false))))):=Keeps.push _ _ _
 have g2:(H1.push (some (.cells true (List.replicate 256 (Value.bool false))))).get H1.next=some (.cells true (List.replicate 256 (Value.bool false))):=Heap.get_push_self _ _
 have n2:(H1.push (some (.cells true (List.replicate 256 (Value.bool false))))).next=H1.next + 1:=Heap.next_push' ..
 generalize H1.push (some (.cells true (List.replicate 256 (Value.bool false))))=H2 at *
 (try simp (maxSteps:=999999) (disch:=try exact ZD) only[ZA,zbz,zn,zm,zk,zi,zj,zg,ze,zft g2 (List.length_replicate) (zm1 _) (zbru _)])
 have g3:=Heap.get_set_eq (x:=some (.cells true (zui (bv cs)))) (show H1.next < H2.next by omega)
 have k3:Keeps [] H1 (H2.set H1.next (some (.cells true (zui (bv cs))))):=zb7 k2 (.inr (Nat.le_refl _))
 generalize H2.set H1.next (some (.cells true (zui (bv cs))))=H3 at *
 refine zbzy g3 s hs _ ?_
 (try simp (maxSteps:=999999) (disch:=try exact ZD) only[ZB])
 refine zbzz g3 _ (by rw[zbcl];have:=zbxk (bv cs) (bv s);rw[zci] at this;omega) _ ?_
 (try simp (maxSteps:=999999) (disch:=try exact ZD) only[ZB])
 rw[z4l]
 exact hQ _ (k1.trans k3 (by simp))
theorem zbfn {α:Type} (p:α→Bool):∀ l:List α,l.dropWhile p=[]↔∀ b∈l,p b=true
 | []=>by simp
 | a :: l=>by
  rw[List.dropWhile_cons]
  by_cases h:p a=true
  ·rw[if_pos h,zbfn p l];simp[h]
  ·rw[if_neg h];simp[h]
theorem zbjr (cs l:List (BitVec 8)):zt6 cs (zr3 cs l)=[]↔∀ b∈l,inS cs b=true:=by
 unfold zt6 zr3
 rw[zbfn]
 constructor
 ·intro h
  by_cases hn:l.reverse.dropWhile (inS cs)=[]
  ·rw[zbfn] at hn
   intro b hb
   exact hn b (by simpa using hb)
  ·have h1:=List.head_dropWhile_not (inS cs) (l:=l.reverse) hn
   have h2:=h ((l.reverse.dropWhile (inS cs)).head hn) (by simp)
   rw[h1] at h2
   exact absurd h2 (by simp)
 ·intro h b hb
  rw[List.mem_reverse] at hb
  have:=(List.dropWhile_sublist (inS cs) (l:=l.reverse)).subset hb
  exact h b (by simpa using this)
end Go.AM.Cap

/- roles: users; Find, level, wrong, formed, Check -/
set_option maxHeartbeats 8000000
namespace Go.AM.Cap
open Go.AM Go.Proofs
structure Rl where
 part:Int
 level:Int
deriving DecidableEq
instance:Inhabited Rl:=⟨⟨0,0⟩⟩
instance:Flat Rl:=⟨2,fun r=>[i64 r.part,i64 r.level],fun _=>rfl,fun _=>rfl,by decide⟩
theorem zbbl (r:Rl):Flat.enc r=[i64 r.part,i64 r.level]:=rfl
structure Us where
 name:ByteArray
 key:ByteArray
 rs:In Rl
instance:Inhabited Us:=⟨⟨⟨#[]⟩,⟨#[]⟩,default⟩⟩
instance:Flat Us:=⟨3,fun u=>[.string u.name,.string u.key,u.rs.v],fun _=>rfl,fun u=>by simp[u.rs.one],by decide⟩
theorem z7d (u:Us):Flat.enc u=[.string u.name,.string u.key,u.rs.v]:=rfl
theorem zbbm (u:Us):([.string u.name,.string u.key,u.rs.v]:List V).all Value.isOne=true:=by simp[u.rs.one]
structure Users (H:Heap) (v:V) (l:List Us):Prop where
 out:Sl H v l
 inn:∀ u∈l,Sl H u.rs.v u.rs.xs∧u.rs.xs.length≤1048576
theorem Users.keep0 {H H':Heap} {v:V} {l:List Us} (h:Users H v l) (hk:Keeps [] H H'):Users H' v l:=⟨h.out.keep0 hk,fun u hu=>⟨(h.inn u hu).1.keep0 hk,(h.inn u hu).2⟩⟩
theorem zbh {α:Type} {l:List α} {i:Nat} {d:α} (h:i < l.length):l.getD i d∈l:=by
 rw[List.getD_eq_getElem?_getD,List.getElem?_eq_getElem h];exact List.getElem_mem h
theorem Users.at {H:Heap} {v:V} {l:List Us} (h:Users H v l) {i:Nat} (hi:i < l.length):Sl H (l.getD i default).rs.v (l.getD i default).rs.xs∧(l.getD i default).rs.xs.length≤1048576:=h.inn _ (zbh hi)
def zhf {α:Type} (p:α→Bool):List α→Option Nat
 | []=>none
 | x :: l=>if p x then some 0 else (zhf p l).map (· + 1)
def zkt:Option Nat→Int
 | none=>-1
 | some i=>i
theorem zvt {α:Type} {p:α→Bool} {d:α}:∀ {l:List α} {i:Nat},i < l.length→p (l.getD i d)=true→(∀ j,j < i→p (l.getD j d)=false)→zhf p l=some i
 | [],i,h,_,_=>by simp at h
 | x :: l,0,_,hp,_=>by
  have:p x=true:=hp
  simp[zhf,this]
 | x :: l,i + 1,h,hp,hn=>by
  have h0:p x=false:=hn 0 (by omega)
  have:=zvt (p:=p) (d:=d) (l:=l) (i:=i) (by simpa using h) (by simpa using hp) (fun j hj=>by simpa using hn (j + 1) (by omega))
  simp[zhf,h0,this]
theorem zs2 {α:Type} {p:α→Bool}:∀ {l:List α},zhf p l=none↔∀ x∈l,p x=false
 | []=>by simp[zhf]
 | x :: l=>by
  unfold zhf
  by_cases h:p x=true
  ·rw[if_pos h];simp[h]
  ·rw[if_neg h,Option.map_eq_none_iff,zs2];simp[h]
theorem z73 {α:Type} {p:α→Bool} {d:α}:∀ {l:List α} {i:Nat},zhf p l=some i→i < l.length∧p (l.getD i d)=true∧∀ j,j < i→p (l.getD j d)=false
 | [],i,h=>by cases h
 | x :: l,i,h=>by
  unfold zhf at h
  by_cases hp:p x=true
  ·rw[if_pos hp] at h
   cases h
   exact⟨by simp,hp,by omega⟩
  ·rw[if_neg hp] at h
   obtain⟨j,hj,rfl⟩:=Option.map_eq_some_iff.1 h
   obtain⟨h1,h2,h3⟩:=z73 (d:=d) hj
   refine⟨by simpa using h1,by simpa using h2,fun k hk=>?_⟩
   cases k with
   | zero=>simpa using hp
   | succ k=>simpa using h3 k (by omega)
theorem zbd1 {α:Type} {p:α→Bool} {d:α} {l:List α} (h:∀ j,j < l.length→p (l.getD j d)=false):zhf p l=none:=by
 rw[zs2]
 intro x hx
 obtain⟨j,hj,rfl⟩:=List.getElem_of_mem hx
 have:=h j hj
 rwa[List.getD_eq_getElem?_getD,List.getElem?_eq_getElem hj] at this
theorem zb2p {S:zx} {f:V} {H:Heap} {v:V} {l:List Us} (h:Sl H v l) (hl:l.length≤1000000000) (p:Us→Bool) (hp:∀ (H2:Heap) (x:Us) (Q:V→Heap→Prop),Keeps [] H H2→(∀ H',Keeps [] H2 H'→Q (.bool (p x)) H')→wp (znw (ovr [] S) f [.agg (Flat.enc x).toArray]) Q H2)
  (Q:V→Heap→Prop) (hQ:∀ H',Keeps [] H H'→Q (i64 (zkt (zhf p l))) H'):wp (zcm S [v,f]) Q H:=by
 show wp (zdp S v f) Q H
 have hlen:=h.len
 (try simp (maxSteps:=999999) (disch:=try exact ZD) only[ZB,zdp,hlen])
 refine zd6 (Inv:=fun k vs H'=>∃ j:Nat,k=l.length - j∧j≤l.length∧vs=[v,f,i64 l.length,i64 j]∧Keeps [] H H'∧(∀ i,i < j→p (l.getD i default)=false)) (n:=l.length) (by unfold zbm;omega)
  ⟨0,by omega,by omega,rfl,Keeps.refl _ _,by omega⟩ ?_
 rintro k vs H1 ⟨j,hk,hj,rfl,hk1,hn⟩
 by_cases hlt:j < l.length
 case neg =>
  have:j=l.length:=by omega
  subst this
  have e:zkt (zhf p l) = -1:=by rw[zbd1 hn];rfl
  (try simp (maxSteps:=999999) (disch:=try exact ZD) only[ZB,zdd,zfz])
  rw[e] at hQ
  exact hQ _ hk1
 have a1:=(h.keep0 hk1).addr' (n:=3) rfl (k := .i64) (i:=j) (by omega) (by omega)
 rw[Int.toNat_natCast] at a1
 have d1:=fun Q=>(h.keep0 hk1).ldn' (Q:=Q) (n:=3) rfl hlt default
 (try simp (maxSteps:=999999) (disch:=try exact ZD) only[ZA,zo,zn,zm,zk,zi,zj,zg,ze,zdd,zfy,a1,d1])
 refine hp H1 _ _ hk1 fun H2 k2=>?_
 cases hq:p (l.getD j default) with
 | true =>
  have e:zkt (zhf p l)=j:=by rw[zvt hlt hq hn];rfl
  rw[e] at hQ
  (try simp (maxSteps:=999999) (disch:=try exact ZD) only[ZB])
  exact hQ _ (hk1.trans k2 (by simp))
 | false =>
  (try simp (maxSteps:=999999) (disch:=try exact ZD) only[ZB,zfx])
  refine⟨l.length - (j + 1),by omega,j + 1,rfl,by omega,by push_cast;rfl,hk1.trans k2 (by simp),fun i hi=>?_⟩
  rcases Nat.lt_or_eq_of_le (Nat.lt_succ_iff.1 hi) with q | rfl
  ·exact hn i q
  ·exact hq
def zyt (l:List Us) (n:ByteArray):Option Nat:=zhf (fun u=>decide (u.name=n)) l
theorem zb2q {H:Heap} {v:V} {l:List Us} (h:Sl H v l) (hl:l.length≤1000000000) (n:ByteArray) (Q:V→Heap→Prop)
  (hQ:∀ H',Keeps [] H H'→Q (match zyt l n with | none => .tuple #[i64 0,i64 90] | some i => .tuple #[i64 i,i64 0]) H'):wp (zvd [v,.string n]) Q H:=by
 show wp (z14 v (.string n)) Q H
 have k1:Keeps [] H (H.push (some (.cells true [.string n]))):=Keeps.push _ _ _
 have g1:(H.push (some (.cells true [.string n]))).get H.next=some (.cells true [.string n]):=Heap.get_push_self _ _
 unfold z14
 rw[z7,z7]
 refine (zbhb (by rfl)).mpr ?_
 generalize H.push (some (.cells true [.string n]))=H1 at *
 (try simp (maxSteps:=999999) (disch:=try exact ZD) only[ZB])
 refine zb2p (h.keep0 k1) hl (fun u=>decide (u.name=n)) (fun H2 x Q k2 hq=>?_) _ fun H2 k2=>?_
 ·have g2:=k2.get g1 (by simp)
  have ho:=zbbm x
  have hn2:H.next < H2.next:=by have:=Heap.get_lt g1;have:=k2.next;omega
  show wp (zrd [.agg (Flat.enc x).toArray,ptr H.next 0]) Q H2
  show wp (zww (.agg (Flat.enc x).toArray) (ptr H.next 0)) Q H2
  (try simp (maxSteps:=999999) (disch:=try exact ZD) only[ZB,zww,z7d,g2])
  exact hq _ (Keeps.push _ _ _)
 ·have hq:=hQ H2 (k1.trans k2 (by simp))
  unfold zyt at hq
  cases hf:zhf (fun u=>decide (u.name=n)) l with
  | none =>
   rw[hf] at hq
   (try simp (maxSteps:=999999) (disch:=try exact ZD) only[ZB,zkt])
   exact hq
  | some i =>
   rw[hf] at hq
   have:¬ ((i:Int) < 0):=by omega
   (try simp (maxSteps:=999999) (disch:=try exact ZD) only[ZB,zkt,z9t])
   exact hq
end Go.AM.Cap
