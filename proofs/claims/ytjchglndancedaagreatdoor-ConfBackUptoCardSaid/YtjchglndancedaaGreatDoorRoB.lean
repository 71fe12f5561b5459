import Derived.Test.YtjchglndancedaaGreatDoorRoA
import Derived.Test.YtjchglndancedaaGreatDoorAmIn
set_option linter.all false
/- roles: users; Find, level, wrong, formed, Check -/
set_option maxHeartbeats 8000000
namespace Go.AM.Cap
open Go.AM Go.Proofs
structure Rl where
 part:Int
 level:Int
deriving DecidableEq
instance:Inhabited Rl:=⟨⟨0,0⟩⟩
instance:Flat Rl:=⟨2,fun r=>[i64 r.part,i64 r.level],fun _=>rfl,fun _=>rfl,by decide⟩
theorem zbmx (r:Rl):Flat.enc r=[i64 r.part,i64 r.level]:=rfl
structure Us where
 name:ByteArray
 key:ByteArray
 rs:In Rl
instance:Inhabited Us:=⟨⟨⟨#[]⟩,⟨#[]⟩,default⟩⟩
instance:Flat Us:=⟨3,fun u=>[.string u.name,.string u.key,u.rs.v],fun _=>rfl,fun u=>by simp[u.rs.one],by decide⟩
theorem zxv (u:Us):Flat.enc u=[.string u.name,.string u.key,u.rs.v]:=rfl
theorem z29 (u:Us):([.string u.name,.string u.key,u.rs.v]:List V).all Value.isOne=true:=by simp[u.rs.one]
structure Users (H:Heap) (v:V) (l:List Us):Prop where
 out:Sl H v l
 inn:∀ u∈l,Sl H u.rs.v u.rs.xs∧u.rs.xs.length≤1048576
theorem Users.keep0 {H H':Heap} {v:V} {l:List Us} (h:Users H v l) (hk:Keeps [] H H'):Users H' v l:=⟨h.out.keep0 hk,fun u hu=>⟨(h.inn u hu).1.keep0 hk,(h.inn u hu).2⟩⟩
theorem zb4 {α:Type} {l:List α} {i:Nat} {d:α} (h:i < l.length):l.getD i d∈l:=by
 rw[List.getD_eq_getElem?_getD,List.getElem?_eq_getElem h];exact List.getElem_mem h
theorem Users.at {H:Heap} {v:V} {l:List Us} (h:Users H v l) {i:Nat} (hi:i < l.length):Sl H (l.getD i default).rs.v (l.getD i default).rs.xs∧(l.getD i default).rs.xs.length≤1048576:=h.inn _ (zb4 hi)
def zg7 {α:Type} (p:α→Bool):List α→Option Nat
 | []=>none
 | x :: l=>if p x then some 0 else (zg7 p l).map (· + 1)
def zj3:Option Nat→Int
 | none=>-1
 | some i=>i
theorem zt6 {α:Type} {p:α→Bool} {d:α}:∀ {l:List α} {i:Nat},i < l.length→p (l.getD i d)=true→(∀ j,j < i→p (l.getD j d)=false)→zg7 p l=some i
 | [],i,h,_,_=>by simp at h
 | x :: l,0,_,hp,_=>by
  have:p x=true:=hp
  simp[zg7,this]
 | x :: l,i + 1,h,hp,hn=>by
  have h0:p x=false:=hn 0 (by omega)
  have:=zt6 (p:=p) (d:=d) (l:=l) (i:=i) (by simpa using h) (by simpa using hp) (fun j hj=>by simpa using hn (j + 1) (by omega))
  simp[zg7,h0,this]
theorem zyx {α:Type} {p:α→Bool}:∀ {l:List α},zg7 p l=none↔∀ x∈l,p x=false
 | []=>by simp[zg7]
 | x :: l=>by
  unfold zg7
  by_cases h:p x=true
  ·rw[if_pos h];simp[h]
  ·rw[if_neg h,Option.map_eq_none_iff,zyx];simp[h]
theorem z35 {α:Type} {p:α→Bool} {d:α}:∀ {l:List α} {i:Nat},zg7 p l=some i→i < l.length∧p (l.getD i d)=true∧∀ j,j < i→p (l.getD j d)=false
 | [],i,h=>by cases h
 | x :: l,i,h=>by
  unfold zg7 at h
  by_cases hp:p x=true
  ·rw[if_pos hp] at h
   cases h
   exact⟨by simp,hp,by omega⟩
  ·rw[if_neg hp] at h
   obtain⟨j,hj,rfl⟩:=Option.map_eq_some_iff.1 h
   obtain⟨h1,h2,h3⟩:=z35 (d:=d) hj
   refine⟨by simpa using h1,by simpa using h2,fun k hk=>?_⟩
   cases k with
   | zero=>simpa using hp
   | succ k=>simpa using h3 k (by omega)
theorem z8w {α:Type} {p:α→Bool} {d:α} {l:List α} (h:∀ j,j < l.length→p (l.getD j d)=false):zg7 p l=none:=by
 rw[zyx]
 intro x hx
 obtain⟨j,hj,rfl⟩:=List.getElem_of_mem hx
 have:=h j hj
 rwa[List.getD_eq_getElem?_getD,List.getElem?_eq_getElem hj] at this
theorem zbvc {S:zu} {f:V} {H:Heap} {v:V} {l:List Us} (h:Sl H v l) (hl:l.length≤1000000000) (p:Us→Bool) (hp:∀ (H2:Heap) (x:Us) (Q:V→Heap→Prop),Keeps [] H H2→(∀ H',Keeps [] H2 H'→Q (.bool (p x)) H')→wp (zmm (ovr [] S) f [.agg (Flat.enc x).toArray]) Q H2)
  (Q:V→Heap→Prop) (hQ:∀ H',Keeps [] H H'→Q (i64 (zj3 (zg7 p l))) H'):wp (zce S [v,f]) Q H:=by
 show wp (zdi S v f) Q H
 have hlen:=h.len
 (try simp(maxSteps:=1000000)(disch:=first|omega|(simp only[Z3];omega)|(simp;done)|assumption|decide|(apply not_not_intro;assumption))only[ZB,zdi,hlen])
 refine zl4 (Inv:=fun k vs H'=>∃ j:Nat,k=l.length - j∧j≤l.length∧vs=[v,f,i64 l.length,i64 j]∧Keeps [] H H'∧(∀ i,i < j→p (l.getD i default)=false)) (n:=l.length) (by unfold zby;omega)
  ⟨0,by omega,by omega,rfl,Keeps.refl _ _,by omega⟩ ?_
 rintro k vs H1 ⟨j,hk,hj,rfl,hk1,hn⟩
 by_cases hlt:j < l.length
 case neg =>
  have:j=l.length:=by omega
  subst this
  have e:zj3 (zg7 p l) = -1:=by rw[z8w hn];rfl
  (try simp(maxSteps:=1000000)(disch:=first|omega|(simp only[Z3];omega)|(simp;done)|assumption|decide|(apply not_not_intro;assumption))only[ZB,zc7,zfp])
  rw[e] at hQ
  exact hQ _ hk1
 have a1:=(h.keep0 hk1).addr' (n:=3) rfl (k := .i64) (i:=j) (by omega) (by omega)
 rw[Int.toNat_natCast] at a1
 have d1:=fun Q=>(h.keep0 hk1).ldn' (Q:=Q) (n:=3) rfl hlt default
 (try simp(maxSteps:=1000000)(disch:=first|omega|(simp only[Z3];omega)|(simp;done)|assumption|decide|(apply not_not_intro;assumption))only[ZA,zp,zo,zm,zk,zj,zi,zh,ze,zc7,zfo,a1,d1])
 refine hp H1 _ _ hk1 fun H2 k2=>?_
 cases hq:p (l.getD j default) with
 | true =>
  have e:zj3 (zg7 p l)=j:=by rw[zt6 hlt hq hn];rfl
  rw[e] at hQ
  (try simp(maxSteps:=1000000)(disch:=first|omega|(simp only[Z3];omega)|(simp;done)|assumption|decide|(apply not_not_intro;assumption))only[ZB])
  exact hQ _ (hk1.trans k2 (by simp))
 | false =>
  (try simp(maxSteps:=1000000)(disch:=first|omega|(simp only[Z3];omega)|(simp;done)|assumption|decide|(apply not_not_intro;assumption))only[ZB,zfn])
  refine⟨l.length - (j + 1),by omega,j + 1,rfl,by omega,by push_cast;rfl,hk1.trans k2 (by simp),fun i hi=>?_⟩
  rcases Nat.lt_or_eq_of_le (Nat.lt_succ_iff.1 hi) with q | rfl
  ·exact hn i q
  ·exact hq
def zba7 (l:List Us) (n:ByteArray):Option Nat:=zg7 (fun u=>decide (u.name=n)) l
theorem zbvd {H:Heap} {v:V} {l:List Us} (h:Sl H v l) (hl:l.length≤1000000000) (n:ByteArray) (Q:V→Heap→Prop)
  (hQ:∀ H',Keeps [] H H'→Q (match zba7 l n with | none => .tuple #[i64 0,i64 90] | some i => .tuple #[i64 i,i64 0]) H'):wp (ztw [v,.string n]) Q H:=by
 show wp (zz4 v (.string n)) Q H
 have k1:Keeps [] H (H.push (some (.cells true [.string n]))):=Keeps.push _ _ _
 have g1:(H.push (some (.cells true [.string n]))).get H.next=some (.cells true [.string n]):=Heap.get_push_self _ _
 unfold zz4
 rw[z6,z6]
 refine (zbbw (by rfl)).mpr ?_
 generalize H.push (some (.cells true [.string n]))=H1 at *
 (try simp(maxSteps:=1000000)(disch:=first|omega|(simp only[Z3];omega)|(simp;done)|assumption|decide|(apply not_not_intro;assumption))only[ZB])
 refine zbvc (h.keep0 k1) hl (fun u=>decide (u.name=n)) (fun H2 x Q k2 hq=>?_) _ fun H2 k2=>?_
 ·have g2:=k2.get g1 (by simp)
  have ho:=z29 x
  have hn2:H.next < H2.next:=by have:=Heap.get_lt g1;have:=k2.next;omega
  show wp (zpq [.agg (Flat.enc x).toArray,ptr H.next 0]) Q H2
  show wp (zvi (.agg (Flat.enc x).toArray) (ptr H.next 0)) Q H2
  (try simp(maxSteps:=1000000)(disch:=first|omega|(simp only[Z3];omega)|(simp;done)|assumption|decide|(apply not_not_intro;assumption))only[ZB,zvi,zxv,g2])
  exact hq _ (Keeps.push _ _ _)
 ·have hq:=hQ H2 (k1.trans k2 (by simp))
  unfold zba7 at hq
  cases hf:zg7 (fun u=>decide (u.name=n)) l with
  | none =>
   rw[hf] at hq
   (try simp(maxSteps:=1000000)(disch:=first|omega|(simp only[Z3];omega)|(simp;done)|assumption|decide|(apply not_not_intro;assumption))only[ZB,zj3])
   exact hq
  | some i =>
   rw[hf] at hq
   have:¬ ((i:Int) < 0):=by omega
   (try simp(maxSteps:=1000000)(disch:=first|omega|(simp only[Z3];omega)|(simp;done)|assumption|decide|(apply not_not_intro;assumption))only[ZB,zj3,z5g])
   exact hq
end Go.AM.Cap
