import Derived.Test.YtjchglndancedaaGreatDoorAmReg4
import Derived.LoopN
import Derived.Scope
import Derived.IntWalk
set_option linter.all false
/- Regions whose order is drawn: whatever order is drawn, what the run in one order says holds. -/
namespace Go.AM
open Go.RowKit (Below)
variable {P:Program} {N:Nat} {w₀:World} {ρ:Ren} {H:Heap} {w:World} {σ:zx} {n:Nat} {ops:Array Oper} {fl:List Nat} {base:Nat}
theorem zbmh:∀ (l:List Nat) {a b j:Nat},zx6 l a=some j→zx6 l b=some j→a=b
 | [],a,b,j,h,_=>by simp[zx6] at h
 | x :: xs,a,b,j,h,g=>by
  simp only[zx6] at h g
  cases ha:Nat.beq x a with
  | true =>
   cases hb:Nat.beq x b with
   | true=>rw[← Nat.eq_of_beq_eq_true ha,← Nat.eq_of_beq_eq_true hb]
   | false =>
    rw[ha] at h;rw[hb] at g
    simp only[cond_true,cond_false] at h g
    cases h
    split at g <;> cases g
  | false =>
   rw[ha] at h
   simp only[cond_false] at h
   split at h
   ·rename_i j' hj';cases h
    cases hb:Nat.beq x b with
    | true=>rw[hb] at g;simp at g
    | false =>
     rw[hb] at g
     simp only[cond_false] at g
     split at g
     ·rename_i j2 hj2;cases g;exact zbmh xs hj' hj2
     ·cases g
   ·cases h
theorem zbcf {i j:Nat} (hj:zx6 fl i=some j):∀ (l:List Nat),i∈l→base + j∈kept fl base l
 | [],h=>by simp at h
 | x :: xs,h=>by
  simp only[kept]
  rcases List.mem_cons.1 h with rfl | h
  ·rw[hj];simp
  ·have:=zbcf hj xs h
   split <;> simp[this]
theorem ztt {H:Heap} {b:Nat}:∀ (l:List Nat),zdq H l=true→b∈l→H.get b=none∧b < H.next
 | [],_,h=>by simp at h
 | x :: xs,hf,h=>by
  simp only[zdq,Bool.and_eq_true] at hf
  rcases List.mem_cons.1 h with rfl | h
  ·have:=hf.1
   split at this
   ·rename_i hn;exact⟨hn,Nat.blt_eq.mp this⟩
   ·cases this
  ·exact ztt xs hf.2 h
theorem z4g {P:Program} {i:Nat} {o:Oper} {j:Nat} (h:zd2 P fl i o = .float j):zx6 fl i=some j:=by
 unfold zd2 at h;split at h
 ·cases h;assumption
 ·split at h <;> cases h
theorem zby2 {P:Program} {i:Nat} {o:Oper} (h:zd2 P fl i o = .quiet):cls P o.op = .mv∨cls P o.op = .pure:=by
 unfold zd2 at h;split at h
 ·cases h
 ·split at h <;> first | (left;assumption) | (right;assumption) | cases h
theorem zbva {P:Program} {i:Nat} {o:Oper} (h:zd2 P fl i o = .read):cls P o.op = .read:=by
 unfold zd2 at h;split at h
 ·cases h
 ·split at h <;> first | assumption | cases h
theorem zbqb {perm:List Nat} {e ef:Env} {Hs Hf:Heap} {tr:List Tr} (h:Run P σ n ops fl base perm e Hs tr ef Hf):∀ (V0:Heap) (D0:List Tr),Hs=zbx (fun _=>true) base D0 V0 →
  (∀ X s Y,tr=X ++ s :: Y→s.H=zbx (fun _=>true) base (if cnt X=0 then D0 ++ X else after (cnt X) X) (zbv (cnt X) V0 tr)) ∧
  Hf=zbx (fun _=>true) base (if cnt tr=0 then D0 ++ tr else after (cnt tr) tr) (zbv (cnt tr) V0 tr):=by
 induction h with
 | nil=>intro V0 D0 hH;exact⟨fun X s Y he=>by cases X <;> simp at he,by simpa[cnt,zbv] using hH⟩
 | @cons i rest e H o v H' tr ef Hf h1 h2 h3 h4 ih =>
  intro V0 D0 hH
  have plain:(zd2 P fl i o).isChain=false→H'=zbx (fun _=>true) base (D0 ++ [⟨i,o,zd2 P fl i o,e,H,v,H'⟩]) V0 →
    (∀ X s Y,(⟨i,o,zd2 P fl i o,e,H,v,H'⟩:Tr) :: tr=X ++ s :: Y→s.H=zbx (fun _=>true) base (if cnt X=0 then D0 ++ X else after (cnt X) X) (zbv (cnt X) V0 (⟨i,o,zd2 P fl i o,e,H,v,H'⟩ :: tr))) ∧
    Hf=zbx (fun _=>true) base (if cnt ((⟨i,o,zd2 P fl i o,e,H,v,H'⟩:Tr) :: tr)=0 then D0 ++ (⟨i,o,zd2 P fl i o,e,H,v,H'⟩ :: tr) else after (cnt ((⟨i,o,zd2 P fl i o,e,H,v,H'⟩:Tr) :: tr)) (⟨i,o,zd2 P fl i o,e,H,v,H'⟩ :: tr)) (zbv (cnt ((⟨i,o,zd2 P fl i o,e,H,v,H'⟩:Tr) :: tr)) V0 (⟨i,o,zd2 P fl i o,e,H,v,H'⟩ :: tr)):=by
   intro hc hH'
   obtain⟨g1,g2⟩:=ih V0 (D0 ++ [⟨i,o,zd2 P fl i o,e,H,v,H'⟩]) hH'
   have hver:∀ k,zbv k V0 ((⟨i,o,zd2 P fl i o,e,H,v,H'⟩:Tr) :: tr)=zbv k V0 tr:=by
    intro k;cases k with
    | zero=>simp[zbv]
    | succ k=>simp[zbv,hc]
   have haft:∀ k X,k≠0→after k ((⟨i,o,zd2 P fl i o,e,H,v,H'⟩:Tr) :: X)=after k X:=by
    intro k X hk;cases k with
    | zero=>exact absurd rfl hk
    | succ k=>simp[after,hc]
   have hcnt:∀ X,cnt ((⟨i,o,zd2 P fl i o,e,H,v,H'⟩:Tr) :: X)=cnt X:=by intro X;simp[cnt,hc]
   refine⟨fun X s Y he=>?_,?_⟩
   ·cases X with
    | nil =>
     simp only[List.nil_append,List.cons.injEq] at he
     obtain⟨rfl,rfl⟩:=he
     simpa[cnt,zbv] using hH
    | cons x X =>
     simp only[List.cons_append,List.cons.injEq] at he
     obtain⟨rfl,rfl⟩:=he
     rw[g1 X s Y rfl,hcnt,hver]
     by_cases hz:cnt X=0
     ·rw[if_pos hz,if_pos hz];simp
     ·rw[if_neg hz,if_neg hz,haft _ _ hz]
   ·rw[g2,hcnt,hver]
    by_cases hz:cnt tr=0
    ·rw[if_pos hz,if_pos hz];simp
    ·rw[if_neg hz,if_neg hz,haft _ _ hz]
  have setLast:∀ s:Tr,zbx (fun _=>true) base (D0 ++ [s]) V0=(match s.kd with | .float j=>H.set (base + j) (s.H'.get (base + j)) | _=>H):=by
   intro s
   rw[zm7,← hH]
   unfold zbx
   cases s.kd <;> rfl
  cases hk:zd2 P fl i o with
  | quiet =>
   rw[hk] at h2 plain
   obtain⟨rfl,_⟩:=zber (zby2 hk) h2
   exact plain rfl (by rw[setLast])
  | read =>
   rw[hk] at h2 plain
   have:=zbp7 (zbva hk) h2;subst this
   exact plain rfl (by rw[setLast])
  | float j =>
   rw[hk] at h2 plain
   obtain⟨_,_,x,v0,_,_,q1,q2,rfl⟩:=h2
   refine plain rfl ?_
   rw[setLast]
   simp only[Heap.get_set _ _ _ _ q2,if_true]
  | chain =>
   obtain⟨g1,g2⟩:=ih H' [] rfl
   refine⟨fun X s Y he=>?_,?_⟩
   ·cases X with
    | nil =>
     simp only[List.nil_append,List.cons.injEq] at he
     obtain⟨rfl,rfl⟩:=he
     simpa[cnt,zbv] using hH
    | cons x X =>
     simp only[List.cons_append,List.cons.injEq] at he
     obtain⟨rfl,rfl⟩:=he
     rw[g1 X s Y rfl]
     simp only[cnt,KD.isChain,if_true,List.nil_append]
     have e1:¬ (1 + cnt X=0):=by omega
     rw[if_neg e1,show 1 + cnt X=cnt X + 1 by omega]
     simp only[zbv,after,KD.isChain,if_true]
     by_cases hz:cnt X=0
     ·rw[if_pos hz,hz];simp[after]
     ·rw[if_neg hz]
   ·rw[g2]
    simp only[cnt,KD.isChain,if_true,List.nil_append]
    have e1:¬ (1 + cnt tr=0):=by omega
    rw[if_neg e1,show 1 + cnt tr=cnt tr + 1 by omega]
    simp only[zbv,after,KD.isChain,if_true]
    by_cases hz:cnt tr=0
    ·rw[if_pos hz,hz];simp[after]
    ·rw[if_neg hz]
theorem zbwu {perm:List Nat} {e ef:Env} {Hs Hf:Heap} {tr:List Tr} (h:Run P σ n ops fl base perm e Hs tr ef Hf):∀ (V:Heap) (X:List Tr) (s:Tr) (Y:List Tr) (j k:Nat),tr=X ++ s :: Y→s.kd = .float j→k + 1≤cnt X →
  (zbv (k + 1) V tr).get (base + j)=none∧base + j < (zbv (k + 1) V tr).next:=by
 induction h with
 | nil=>intro V X s Y j k he;cases X <;> simp at he
 | @cons i rest e H o v H' tr ef Hf h1 h2 h3 h4 ih =>
  intro V X s Y j k he hs hk
  cases X with
  | nil=>simp[cnt] at hk
  | cons x X =>
   simp only[List.cons_append,List.cons.injEq] at he
   obtain⟨rfl,rfl⟩:=he
   simp only[cnt] at hk
   cases hc:(zd2 P fl i o).isChain with
   | true =>
    simp only[hc,if_true] at hk
    simp only[zbv,hc,if_true]
    cases k with
    | zero =>
     simp only[zbv]
     have hkd:zd2 P fl i o = .chain:=by cases hq:zd2 P fl i o <;> rw[hq] at hc <;> first | rfl | cases hc
     rw[hkd] at h3
     simp only[zvz,Bool.and_eq_true] at h3
     have hmem:s.i∈rest:=by rw[← h4.map_i];simp
     have hidx:zx6 fl s.i=some j:=by
      obtain⟨_,_,_,q,_⟩:=h4.split rfl
      rw[hs] at q;exact z4g q.symm
     exact ztt _ h3.2 (zbcf hidx rest hmem)
    | succ k=>exact ih H' X s Y j k rfl hs (by omega)
   | false =>
    simp only[hc,Bool.false_eq_true,if_false,Nat.zero_add] at hk
    simp only[zbv,hc,Bool.false_eq_true,if_false]
    exact ih V X s Y j k rfl hs hk
theorem zby3 {perm:List Nat} {e ef:Env} {Hs Hf:Heap} {tr:List Tr} (h:Run P σ n ops fl base perm e Hs tr ef Hf) (hf:zdq Hs (kept fl base perm)=true) {X:List Tr} {s:Tr} {Y:List Tr} {j k:Nat} (he:tr=X ++ s :: Y) (hs:s.kd = .float j) (hk:k≤cnt X) :
  (zbv k Hs tr).get (base + j)=none∧base + j < (zbv k Hs tr).next:=by
 cases k with
 | zero =>
  simp only[zbv]
  have hmem:s.i∈perm:=by rw[← h.map_i,he];simp
  obtain⟨_,_,_,q,_⟩:=h.split he
  rw[hs] at q
  exact ztt _ hf (zbcf (z4g q.symm) perm hmem)
 | succ k=>exact zbwu h Hs X s Y j k he hs hk
theorem z4h:∀ (X:List Tr) (k:Nat),k < cnt X→∃ X1 p X2,X=X1 ++ p :: X2∧p.kd.isChain=true∧cnt X1=k
 | [],k,h=>by simp[cnt] at h
 | x :: X,k,h=>by
  simp only[cnt] at h
  cases hc:x.kd.isChain with
  | true =>
   cases k with
   | zero=>exact⟨[],x,X,rfl,hc,rfl⟩
   | succ k =>
    simp only[hc,if_true] at h
    obtain⟨X1,p,X2,h1,h2,h3⟩:=z4h X k (by omega)
    exact⟨x :: X1,p,X2,by simp[h1],h2,by simp[cnt,hc,h3];omega⟩
  | false =>
   simp only[hc,Bool.false_eq_true,if_false,Nat.zero_add] at h
   obtain⟨X1,p,X2,h1,h2,h3⟩:=z4h X k h
   exact⟨x :: X1,p,X2,by simp[h1],h2,by simp[cnt,hc,h3]⟩
theorem zya:∀ (tr:List Tr) (j c:Nat),(zx7 tr)[j]? = some c→∃ X s Y,tr=X ++ s :: Y∧s.kd.isChain=true∧cnt X=j∧s.i=c
 | [],j,c,h=>by simp[zx7] at h
 | x :: tr,j,c,h=>by
  simp only[zx7] at h
  cases hc:x.kd.isChain with
  | true =>
   rw[hc] at h
   simp only[cond_true] at h
   cases j with
   | zero=>simp at h;exact⟨[],x,tr,rfl,hc,rfl,h⟩
   | succ j =>
    obtain⟨X,s,Y,h1,h2,h3,h4⟩:=zya tr j c (by simpa using h)
    exact⟨x :: X,s,Y,by simp[h1],h2,by simp[cnt,hc,h3];omega,h4⟩
  | false =>
   rw[hc] at h
   obtain⟨X,s,Y,h1,h2,h3,h4⟩:=zya tr j c h
   exact⟨x :: X,s,Y,by simp[h1],h2,by simp[cnt,hc,h3],h4⟩
theorem zbcg:∀ (X:List Tr) (k:Nat) (Z:List Tr),k≤cnt X→after k (X ++ Z)=after k X ++ Z
 | X,0,Z,_=>by simp[after]
 | [],k + 1,Z,h=>by simp[cnt] at h
 | x :: X,k + 1,Z,h=>by
  simp only[cnt] at h
  cases hc:x.kd.isChain with
  | true=>simp only[hc,if_true] at h;simp only[List.cons_append,after,hc,if_true];exact zbcg X k Z (by omega)
  | false=>simp only[hc,Bool.false_eq_true,if_false,Nat.zero_add] at h;simp only[List.cons_append,after,hc,Bool.false_eq_true,if_false];exact zbcg X (k + 1) Z h
theorem zjx:∀ (k:Nat) (tr:List Tr),k≤cnt tr→∃ X,tr=X ++ after k tr∧k≤cnt X
 | 0,tr,_=>⟨[],by simp[after],by simp⟩
 | k + 1,[],h=>by simp[cnt] at h
 | k + 1,x :: tr,h=>by
  simp only[cnt] at h
  cases hc:x.kd.isChain with
  | true =>
   simp only[hc,if_true] at h
   obtain⟨X,h1,h2⟩:=zjx k tr (by omega)
   refine⟨x :: X,?_,by simp[cnt,hc];omega⟩
   simp only[after,hc,if_true,List.cons_append];rw[← h1]
  | false =>
   simp only[hc,Bool.false_eq_true,if_false,Nat.zero_add] at h
   obtain⟨X,h1,h2⟩:=zjx (k + 1) tr h
   refine⟨x :: X,?_,by simp[cnt,hc];omega⟩
   simp only[after,hc,Bool.false_eq_true,if_false,List.cons_append];rw[← h1]
end Go.AM

/- Regions whose order is drawn: the theorem. -/
namespace Go.AM
open Go.RowKit (Below)
variable {P:Program} {N:Nat} {w₀:World} {ρ:Ren} {H:Heap} {w:World} {σ:zx} {n:Nat} {ops:Array Oper} {fl:List Nat} {base:Nat}
structure Stat (P:Program) (σ:zx) (n:Nat) (ops:Array Oper) (fl:List Nat) (base N:Nat) (perm:List Nat) (e0:Env) (Hs:Heap) (tr:List Tr) (ef:Env) (Hf:Heap):Prop where
 hσ:zd8 P σ
 hG:P.globals.size≤N
 run:Run P σ n ops fl base perm e0 Hs tr ef Hf
 ord:zbb0 P ops (Region.before ops) fl [] perm=true
 all:∀ i,i < ops.size→i∈perm
 rd:z35 P ops fl true perm=true
 chk:∀ X s Y,tr=X ++ s :: Y→s.kd.isRead=true→∀ k HH,(Hs :: z7r tr)[k]? = some HH→k≠cnt X→z09 (Region.before ops) (zx7 tr) s.i k=true→AM.chk (gdM P σ ops s.o s.env) HH s.v=true
 free:zdq Hs (kept fl base perm)=true
abbrev mm (L:Array Bool):Nat→Bool:=fun i=>L.getD i false
def Down (ops:Array Oper) (M:Nat→Bool):Prop:=∀ i,M i=true→∃ o,ops[i]? = some o∧∀ e∈o.after.toList,Region.binds .any e=true→M e.on=true
structure Inv (n:Nat) (ops:Array Oper) (base N:Nat) (w₀:World) (e0:Env) (Hs:Heap) (tr:List Tr) (ρS:Ren) (HS:Heap) (wS:World) (aS:Act) (L:Array Bool) (a:Act) (w:World) (ρ:Ren) (k:Nat):Prop where
 size:L.size=ops.size
 down:Down ops (mm L)
 kle:k≤cnt tr
 chain:∀ X s Y,tr=X ++ s :: Y→s.kd.isChain=true→(mm L s.i=true↔cnt X < k)
 rel:Rel N w₀ ρ (zbx (mm L) base (after k tr) (zbv k Hs tr)) w
 env:EnvRel n ρ (zfb n (mm L) tr e0) a
 ext:Ext ρS HS wS ρ (zbx (mm L) base (after k tr) (zbv k Hs tr)) w
 free:∀ X s Y j,tr=X ++ s :: Y→s.kd = .float j→mm L s.i=false→ρ (base + j)=none
 defers:a.defers=aS.defers
theorem zb40 (L:Array Bool) (i j:Nat) (hi:i < L.size):mm (L.setIfInBounds i true) j=(if j=i then true else mm L j):=by
 unfold mm
 rw[Array.getD_eq_getD_getElem?,Array.getElem?_setIfInBounds,Array.getD_eq_getD_getElem?]
 by_cases h:i=j
 ·subst h;simp[hi]
 ·rw[if_neg h,if_neg (fun e=>h e.symm)]
theorem zbao {L:Array Bool} {i:Nat} (hsz:L.size=ops.size) (h:i∈Region.ready .any ops L):i < ops.size∧mm L i=false∧∃ o,ops[i]? = some o∧∀ e∈o.after.toList,Region.binds .any e=true→mm L e.on=true:=by
 simp only[Region.ready,List.mem_filter,List.mem_range,Bool.and_eq_true,Bool.not_eq_true'] at h
 obtain⟨h1,h2,h3⟩:=h
 have hL:i < L.size:=by omega
 refine⟨h1,by simpa[mm,hL] using h2,ops[i],by simp[h1],fun e he hb=>?_⟩
 simp only[Array.getElem?_eq_getElem h1,Option.map_some,Option.getD_some,Array.all_eq_true_iff_forall_mem,Bool.or_eq_true,Bool.not_eq_true'] at h3
 rcases h3 e (by simpa using he) with q | q
 ·rw[hb] at q;cases q
 ·exact q
theorem zby4 {L:Array Bool} {i:Nat} (hsz:L.size=ops.size) {o:Oper} (ho:ops[i]? = some o) (hu:mm L i=false) (he:∀ e∈o.after.toList,Region.binds .any e=true→mm L e.on=true):i∈Region.ready .any ops L:=by
 have h1:i < ops.size:=by
  rcases Nat.lt_or_ge i ops.size with q | q
  ·exact q
  ·simp[Array.getElem?_eq_none q] at ho
 have hL:i < L.size:=by omega
 simp only[Region.ready,List.mem_filter,List.mem_range,Bool.and_eq_true,Bool.not_eq_true']
 refine⟨h1,by simpa[mm,hL] using hu,?_⟩
 simp only[ho,Option.map_some,Option.getD_some,Array.all_eq_true_iff_forall_mem,Bool.or_eq_true,Bool.not_eq_true']
 intro e hm
 cases hb:Region.binds .any e with
 | false=>exact .inl rfl
 | true=>exact .inr (he e (by simpa using hm) hb)
section
variable {perm:List Nat} {e0:Env} {Hs:Heap} {tr:List Tr} {ef:Env} {Hf:Heap}
theorem Stat.at (S:Stat P σ n ops fl base N perm e0 Hs tr ef Hf) {i:Nat} (hi:i < ops.size):∃ X s Y,tr=X ++ s :: Y∧s.i=i:=by
 have h1:=S.all i hi
 rw[← S.run.map_i] at h1
 obtain⟨s,hs,rfl⟩:=List.mem_map.1 h1
 obtain⟨X,Y,h2⟩:=List.append_of_mem hs
 exact⟨X,s,Y,h2,rfl⟩
theorem Stat.perm_eq (S:Stat P σ n ops fl base N perm e0 Hs tr ef Hf) {X:List Tr} {s:Tr} {Y:List Tr} (he:tr=X ++ s :: Y):perm=X.map (·.i) ++ s.i :: Y.map (·.i):=by
 rw[← S.run.map_i,he];simp
theorem Stat.ne (S:Stat P σ n ops fl base N perm e0 Hs tr ef Hf) {X:List Tr} {s:Tr} {Y:List Tr} (he:tr=X ++ s :: Y):(∀ p∈X,p.i≠s.i)∧∀ q∈Y,q.i≠s.i:=by
 constructor
 ·intro p hp e
  obtain⟨o,_,_,g,_⟩:=zqp perm [] S.ord (X.map (·.i)) s.i (Y.map (·.i)) (S.perm_eq he)
  exact g (by rw[← e];exact List.mem_map.2 ⟨p,hp,rfl⟩)
 ·intro q hq e
  obtain⟨Y1,Y2,rfl⟩:=List.append_of_mem hq
  have he2:tr=(X ++ s :: Y1) ++ q :: Y2:=by rw[he];simp
  obtain⟨o,_,_,g,_⟩:=zqp perm [] S.ord _ q.i _ (S.perm_eq he2)
  exact g (by rw[e];simp)
theorem Stat.pair (S:Stat P σ n ops fl base N perm e0 Hs tr ef Hf) {X:List Tr} {s:Tr} {Y:List Tr} (he:tr=X ++ s :: Y) {p:Tr} (hp:p∈X) :
  (zbbz ops p.o s.o=true→ancB (Region.before ops) s.i p.i=true)∧(p.kd.isChain=true→s.kd.isChain=true→ancB (Region.before ops) s.i p.i=true)∧(p.kd.isFloat=true→s.kd.isChain=true→ancB (Region.before ops) s.i p.i=true):=by
 obtain⟨o,h1,_,_,_,h2,_⟩:=zqp perm [] S.ord (X.map (·.i)) s.i (Y.map (·.i)) (S.perm_eq he)
 have hpair:=h2 p.i (.inr (List.mem_map.2 ⟨p,hp,rfl⟩))
 obtain⟨_,_,hso,hsk,_⟩:=S.run.split he
 obtain⟨X1,X2,rfl⟩:=List.append_of_mem hp
 have he2:tr=X1 ++ p :: (X2 ++ s :: Y):=by rw[he];simp
 obtain⟨_,_,hpo,hpk,_⟩:=S.run.split he2
 simp only[zbs2,hso,hpo,Bool.and_eq_true,Bool.or_eq_true,Bool.not_eq_true'] at hpair
 obtain⟨q1,q2⟩:=hpair
 rw[← hpk,← hsk] at q2
 refine⟨fun hc=>?_,fun h3 h4=>?_,fun h3 h4=>?_⟩
 ·rcases q1 with q1 | q1
  ·rw[hc] at q1;cases q1
  ·exact q1
 ·cases hpk':p.kd <;> rw[hpk'] at h3 q2 <;> first | (cases h3;done) | skip
  cases hsk':s.kd <;> rw[hsk'] at h4 q2 <;> first | (cases h4;done) | exact q2
 ·cases hpk':p.kd <;> rw[hpk'] at h3 q2 <;> first | (cases h3;done) | skip
  cases hsk':s.kd <;> rw[hsk'] at h4 q2 <;> first | (cases h4;done) | exact q2
theorem Stat.sides (S:Stat P σ n ops fl base N perm e0 Hs tr ef Hf) {L:Array Bool} (hd:Down ops (mm L)) {X:List Tr} {s:Tr} {Y:List Tr} (he:tr=X ++ s :: Y) (hu:mm L s.i=false)
  (hready:∃ o,ops[s.i]? = some o∧∀ e∈o.after.toList,Region.binds .any e=true→mm L e.on=true) :
  (∀ p,p∈X→ancB (Region.before ops) s.i p.i=true→mm L p.i=true)∧(∀ q,q∈Y→ancB (Region.before ops) q.i s.i=true→mm L q.i=false):=by
 constructor
 ·intro p hp ha
  have hdown:∀ j,(mm L j=true∨j=s.i)→∃ o,ops[j]? = some o∧∀ e∈o.after.toList,Region.binds .any e=true→(mm L e.on=true∨e.on=s.i):=by
   intro j hj
   rcases hj with hj | rfl
   ·obtain⟨o,h1,h2⟩:=hd j hj;exact⟨o,h1,fun e he hb => .inl (h2 e he hb)⟩
   ·obtain⟨o,h1,h2⟩:=hready;exact⟨o,h1,fun e he hb => .inl (h2 e he hb)⟩
  rcases zuz (Mp:=fun j=>mm L j=true∨j=s.i) hdown s.i (.inr rfl) p.i ha with q | q
  ·exact q
  ·exact absurd q ((S.ne he).1 p hp)
 ·intro q hq ha
  cases hm:mm L q.i with
  | false=>rfl
  | true =>
   have:=zuz (Mp:=fun j=>mm L j=true) (fun j hj=>hd j hj) q.i hm s.i ha
   rw[hu] at this;cases this
theorem zbwv {x y:Oper} {t:Nat} (h1:x.dst=some t) (h2:t∈zbfx ops y):zbbz ops x y=true:=by
 simp[zbbz,h1,h2]
theorem zbww {x y:Oper} {t:Nat} (h1:y.dst=some t) (h2:t∈zbfx ops x):zbbz ops x y=true:=by
 simp[zbbz,h1,h2]
theorem zbwx {x y:Oper} {t:Nat} (h1:x.dst=some t) (h2:y.dst=some t):zbbz ops x y=true:=by
 simp[zbbz,h1,h2]
end
end Go.AM

/- Regions whose order is drawn: one operation, whichever is next. -/
namespace Go.AM
open Go.RowKit (Below)
variable {P:Program} {N:Nat} {w₀:World} {ρ:Ren} {H:Heap} {w:World} {σ:zx} {n:Nat} {ops:Array Oper} {fl:List Nat} {base:Nat}
variable {perm:List Nat} {e0:Env} {Hs:Heap} {tr:List Tr} {ef:Env} {Hf:Heap} {ρS:Ren} {HS:Heap} {wS:World} {aS:Act}
theorem zbvb {X1 X2:List Tr} {p:Tr} (hp:p.kd.isChain=true):cnt (X1 ++ p :: X2)=cnt X1 + 1 + cnt X2:=by
 rw[zbh5];simp[cnt,hp];omega
theorem step (S:Stat P σ n ops fl base N perm e0 Hs tr ef Hf) (hbase:HS.next=base) {L:Array Bool} {a:Act} {k:Nat} (I:Inv n ops base N w₀ e0 Hs tr ρS HS wS aS L a w ρ k) {i:Nat} (hi:i∈Region.ready .any ops L)
  {K:Act→World→Prop} {Q:Exit→Act→World→Prop} (hK:∀ a' w' ρ' k',Inv n ops base N w₀ e0 Hs tr ρS HS wS aS (L.setIfInBounds i true) a' w' ρ' k'→K a' w'):wpOp P ops Q i K a w:=by
 obtain⟨hlt,hu,hready⟩:=zbao I.size hi
 obtain⟨X,s,Y,he,rfl⟩:=S.at hlt
 obtain⟨henv,hstep,hops,hkd,hend⟩:=S.run.split he
 obtain⟨hneX,hneY⟩:=S.ne he
 obtain⟨sideX,sideY⟩:=S.sides I.down he hu hready
 have hLs:s.i < L.size:=by rw[I.size];exact hlt
 have hset:=fun j=>zb40 L s.i j hLs
 have pX:=fun p (hp:p∈X)=>S.pair he hp
 have pY:∀ q,q∈Y→(zbbz ops s.o q.o=true→mm L q.i=false)∧(s.kd.isChain=true→q.kd.isChain=true→mm L q.i=false)∧(s.kd.isFloat=true→q.kd.isChain=true→mm L q.i=false):=by
  intro q hq
  obtain⟨Y1,Y2,rfl⟩:=List.append_of_mem hq
  have he2:tr=(X ++ s :: Y1) ++ q :: Y2:=by rw[he];simp
  obtain⟨h1,h2,h3⟩:=S.pair he2 (p:=s) (by simp)
  exact⟨fun c=>sideY q hq (h1 c),fun c d=>sideY q hq (h2 c d),fun c d=>sideY q hq (h3 c d)⟩
 have hen:∀ t∈zbfx ops s.o,s.env t=zfb n (mm L) tr e0 t:=by
  intro t ht
  rw[henv,he,z1i]
  simp only[zfb]
  rw[if_neg (by rw[hu];simp)]
  rw[zbce (mm L) Y _ fun q hq hd=>(pY q hq).1 (zbww hd ht)]
  exact (zbes (mm L) X e0 e0 (fun p hp hd=>sideX p hp ((pX p hp).1 (zbwv hd ht))) rfl).symm
 have hgdE:gdM P σ ops s.o s.env=gdM P σ ops s.o (zfb n (mm L) tr e0):=zbws s.o hen
 have hcur:∀ t,zfb n (mm (L.setIfInBounds s.i true)) tr e0 t=(zfb n (mm L) tr e0).put n s.o.dst s.v t:=by
  intro t
  rw[he,z1i,z1i]
  simp only[zfb]
  rw[if_pos (by rw[hset];simp),if_neg (by rw[hu];simp)]
  rw[z7x (mm (L.setIfInBounds s.i true)) (mm L) X e0 fun p hp=>by rw[hset,if_neg (hneX p hp)]]
  rw[z7x (mm (L.setIfInBounds s.i true)) (mm L) Y _ fun q hq=>by rw[hset,if_neg (hneY q hq)]]
  refine zby1 (mm L) Y _ (fun q hq hm t ht hd=>?_) t
  rw[(pY q hq).1 (zbwx ht hd)] at hm;cases hm
 have envOf:∀ {ρ':Ren} {r':V},ρ.le ρ'→VRel ρ' s.v r'→EnvRel n ρ' (zfb n (mm (L.setIfInBounds s.i true)) tr e0) (a.put s.o.dst r'):=by
  intro ρ' r' hle hv
  have h1:=(I.env.mono hle).put s.o.dst hv
  exact⟨h1.size,fun t=>by rw[hcur];exact h1.slot t⟩
 have hsize:(L.setIfInBounds s.i true).size=ops.size:=by simp[I.size]
 have hdown:Down ops (mm (L.setIfInBounds s.i true)):=by
  intro j hj
  rw[hset] at hj
  have up:∀ x,mm L x=true→mm (L.setIfInBounds s.i true) x=true:=by intro x hx;rw[hset];split <;> simp_all
  split at hj
  ·rename_i q;subst q;obtain⟨o,h1,h2⟩:=hready;exact⟨o,h1,fun e hm hb=>up _ (h2 e hm hb)⟩
  ·obtain⟨o,h1,h2⟩:=I.down j hj;exact⟨o,h1,fun e hm hb=>up _ (h2 e hm hb)⟩
 have hfree:∀ {ρ':Ren},(∀ X s' Y j,tr=X ++ s' :: Y→s'.kd = .float j→s'.i≠s.i→mm L s'.i=false→ρ' (base + j)=none) →
   ∀ X s' Y j,tr=X ++ s' :: Y→s'.kd = .float j→mm (L.setIfInBounds s.i true) s'.i=false→ρ' (base + j)=none:=by
  intro ρ' h X' s' Y' j h1 h2 h3
  rw[hset] at h3
  split at h3
  ·cases h3
  ·rename_i q;exact h X' s' Y' j h1 h2 q h3
 have uniq:∀ {X':List Tr} {s':Tr} {Y':List Tr},tr=X' ++ s' :: Y'→s'.i=s.i→X'=X∧s'=s∧Y'=Y:=by
  intro X' s' Y' he' hii
  have key:∀ (A:List Tr) (B:List Tr) (u v:Tr) (C D:List Tr),A ++ u :: C=B ++ v :: D→(∀ p∈A,p.i≠v.i)→(∀ p∈B,p.i≠u.i)→A=B∧u=v∧C=D:=by
   intro A
   induction A with
   | nil =>
    intro B u v C D h hA hB
    cases B with
    | nil=>simp at h;exact⟨rfl,h.1,h.2⟩
    | cons b B=>simp at h;exact absurd (by rw[h.1]) (hB b (by simp))
   | cons x A ih =>
    intro B u v C D h hA hB
    cases B with
    | nil=>simp at h;exact absurd (by rw[h.1]) (hA x (by simp))
    | cons b B =>
     simp at h
     obtain⟨g1,g2,g3⟩:=ih B u v C D h.2 (fun p hp=>hA p (by simp[hp])) (fun p hp=>hB p (by simp[hp]))
     exact⟨by rw[h.1,g1],g2,g3⟩
  exact key X' X s' s Y' Y (he'.symm.trans he) (fun p hp=>by rw[← hii];exact (S.ne he').1 p hp) (fun p hp=>by rw[hii];exact hneX p hp)
 have hchainSame:s.kd.isChain=false→∀ X s' Y,tr=X ++ s' :: Y→s'.kd.isChain=true→(mm (L.setIfInBounds s.i true) s'.i=true↔cnt X < k):=by
  intro hc X' s' Y' he' hs'
  rw[hset]
  split
  ·rename_i q
   obtain⟨_,rfl,_⟩:=uniq he' q
   rw[hc] at hs';cases hs'
  ·exact I.chain X' s' Y' he' hs'
 have hflSame:s.kd.isFloat=false→∀ (B:List Tr) G,(∀ x∈B,x∈tr)→zbx (mm (L.setIfInBounds s.i true)) base B G=zbx (mm L) base B G:=by
  intro hf B G hB
  refine zjs _ _ B G fun x hx j hj=>?_
  rw[hset]
  split
  ·rename_i q
   obtain⟨X1,Y1,h1⟩:=List.append_of_mem (hB x hx)
   obtain⟨_,rfl,_⟩:=uniq h1 q
   rw[hj] at hf;cases hf
  ·rfl
 have afterSub:∀ x∈after k tr,x∈tr:=by
  intro x hx
  obtain⟨X1,h1,_⟩:=zjx k tr I.kle
  rw[h1];simp[hx]
 unfold wpOp
 rw[hops]
 simp only
 have still:s.kd.isChain=false→s.kd.isFloat=false→(cls P s.o.op = .mv∨cls P s.o.op = .pure∨cls P s.o.op = .read)→∀ {G:Heap} {H1:Heap},Rel N w₀ ρ G w→gdM P σ ops s.o s.env G=some (s.v,H1) →
   if Region.wanted s.o (yielded ops a.tmps) then s.o.wp P a w K Q∨(s.o.asks P a w∧LetsOut Q) else K (a.put s.o.dst undef) w:=by
  intro hc hf hcls G H1 hG hgd
  rw[hgdE] at hgd
  have:=zbyx (Q:=Q) (K:=K) S.hG hG I.env hcls hgd fun r' hr'=>by
   refine hK _ w ρ k ⟨hsize,hdown,I.kle,hchainSame hc,?_,envOf (.refl _) hr',?_,hfree fun X' s' Y' j h1 h2 _ h4=>I.free X' s' Y' j h1 h2 h4,?_⟩
   ·rw[hflSame hf _ _ afterSub];exact I.rel
   ·rw[hflSame hf _ _ afterSub];exact I.ext
   ·rw[z1e];exact I.defers
  split
  ·rename_i hw;rw[if_pos hw] at this;exact .inl this
  ·rename_i hw;rw[if_neg hw] at this;exact this
 have freeV:∀ x∈after k tr,∀ j,x.kd = .float j→(zbv k Hs tr).get (base + j)=none∧base + j < (zbv k Hs tr).next:=by
  intro x hx j hj
  obtain⟨X1,h1,h2⟩:=zjx k tr I.kle
  obtain⟨A,B,h3⟩:=List.append_of_mem hx
  have he3:tr=(X1 ++ A) ++ x :: B:=by rw[h1,h3];simp
  exact zby3 S.run S.free he3 hj (by rw[zbh5];omega)
 have relV:Rel N w₀ ρ (zbv k Hs tr) w:=by
  refine I.rel.shrink (zfl _ _ _).symm fun b x hb=>?_
  rcases zls (base:=base) (mm L) (after k tr) (zbv k Hs tr) (zbv k Hs tr) (fun x hx j hj=>⟨(freeV x hx j hj).2,(freeV x hx j hj).2⟩) b with⟨⟨x',hx',j,hj,_,rfl⟩,_⟩ | ⟨q,_⟩
  ·rw[(freeV x' hx' j hj).1] at hb;cases hb
  ·rw[q];exact hb
 cases hk:s.kd with
 | quiet =>
  rw[hk] at hstep hkd
  have hcls:=zby2 hkd.symm
  have hq:=zber hcls hstep
  exact still (by rw[hk];rfl) (by rw[hk];rfl) (hcls.imp id .inl) I.rel (hq.2 _)
 | read =>
  rw[hk] at hstep hkd
  have hcls:=zbva hkd.symm
  have hread:s.kd.isRead=true:=by rw[hk];rfl
  by_cases hown:k=cnt X
  ·subst hown
   have:=zbp9 S.run true Hs S.rd (fun _=>rfl) X s Y he hread
   rw[this] at hstep
   exact still (by rw[hk];rfl) (by rw[hk];rfl) (.inr (.inr hcls)) relV hstep
  ·have hv:=zbh4 tr Hs k I.kle
   have hco:z09 (Region.before ops) (zx7 tr) s.i k=true:=by
    simp only[z09,Bool.and_eq_true,List.all_eq_true,Bool.not_eq_true']
    constructor
    ·intro c hc
     cases hb:ancB (Region.before ops) c s.i with
     | false=>rfl
     | true =>
      obtain⟨j,hj⟩:=List.getElem?_of_mem hc
      have hjk:j < k:=by
       rcases Nat.lt_or_ge j k with q | q
       ·exact q
       ·rw[List.getElem?_eq_none (by simp;omega)] at hj;cases hj
      rw[List.getElem?_take,if_pos hjk] at hj
      obtain⟨X1,p,Y1,h1,h2,h3,h4⟩:=zya tr j c hj
      have hm:=(I.chain X1 p Y1 h1 h2).2 (by omega)
      rw[h4] at hm
      have:=zuz (Mp:=fun j=>mm L j=true) (fun j hj=>I.down j hj) c hm s.i hb
      rw[hu] at this;cases this
    ·intro c hc
     cases hb:ancB (Region.before ops) s.i c with
     | false=>rfl
     | true =>
      obtain⟨j,hj⟩:=List.getElem?_of_mem hc
      rw[List.getElem?_drop] at hj
      obtain⟨X1,p,Y1,h1,h2,h3,h4⟩:=zya tr (k + j) c hj
      have hnm:¬ mm L p.i=true:=fun q=>by have:=(I.chain X1 p Y1 h1 h2).1 q;omega
      have hdown2:∀ j,(mm L j=true∨j=s.i)→∃ o,ops[j]? = some o∧∀ e∈o.after.toList,Region.binds .any e=true→(mm L e.on=true∨e.on=s.i):=by
       intro j hj
       rcases hj with hj | rfl
       ·obtain⟨o,h1,h2⟩:=I.down j hj;exact⟨o,h1,fun e he hb => .inl (h2 e he hb)⟩
       ·obtain⟨o,h1,h2⟩:=hready;exact⟨o,h1,fun e he hb => .inl (h2 e he hb)⟩
      rcases zuz (Mp:=fun j=>mm L j=true∨j=s.i) hdown2 s.i (.inr rfl) c hb with q | q
      ·rw[h4] at hnm;exact absurd q hnm
      ·obtain⟨_,rfl,_⟩:=uniq h1 (by rw[h4,q])
       rw[hk] at h2;cases h2
   obtain⟨H1,hg⟩:=zby0 (S.chk X s Y he hread k _ hv hown hco)
   exact still (by rw[hk];rfl) (by rw[hk];rfl) (.inr (.inr hcls)) relV hg
 | chain =>
  have hsc:s.kd.isChain=true:=by rw[hk];rfl
  have hkX:k=cnt X:=by
   have h1:¬ cnt X < k:=fun q=>by have:=(I.chain X s Y he hsc).2 q;rw[hu] at this;cases this
   rcases Nat.lt_or_ge k (cnt X) with q | q
   ·obtain⟨X1,p,X2,g1,g2,g3⟩:=z4h X k q
    have hp:p∈X:=by rw[g1];simp
    have hm:=sideX p hp ((pX p hp).2.1 g2 hsc)
    have he3:tr=X1 ++ p :: (X2 ++ s :: Y):=by rw[he,g1];simp
    have:=(I.chain X1 p _ he3 g2).1 hm
    omega
   ·omega
  subst hkX
  have hD:after (cnt X) tr=after (cnt X) X ++ s :: Y:=by rw[he];exact zbcg X _ _ (Nat.le_refl _)
  have hseg:=(zbqb S.run Hs [] rfl).1 X s Y he
  have hsegD:s.H=zbx (fun _=>true) base (after (cnt X) X) (zbv (cnt X) Hs tr):=by
   rw[hseg]
   by_cases hz:cnt X=0
   ·rw[if_pos hz,hz];simp[after]
   ·rw[if_neg hz]
  have subD:∀ x∈after (cnt X) X,x∈X:=by
   intro x hx
   obtain⟨X1,h1,_⟩:=zjx (cnt X) X (Nat.le_refl _)
   rw[h1];simp[hx]
  have hsH:s.H=zbx (mm L) base (after (cnt X) X) (zbv (cnt X) Hs tr):=by
   rw[hsegD]
   refine zjs _ _ _ _ fun x hx j hj=>?_
   have hp:=subD x hx
   exact (sideX x hp ((pX x hp).2.2 (by rw[hj];rfl) hsc)).symm
  have hHL:zbx (mm L) base (after (cnt X) tr) (zbv (cnt X) Hs tr)=zbx (mm L) base Y s.H:=by
   rw[hD,zm7,← hsH]
   simp[zbx,hk]
  rw[hk] at hend
  simp only[zvz,Bool.and_eq_true] at hend
  have freeY:∀ x∈Y,∀ j,x.kd = .float j→(s.H.get (base + j)=none∧base + j < s.H.next)∧(s.H'.get (base + j)=none∧base + j < s.H'.next):=by
   intro x hx j hj
   obtain⟨Y1,Y2,rfl⟩:=List.append_of_mem hx
   have he3:tr=(X ++ s :: Y1) ++ x :: Y2:=by rw[he];simp
   obtain⟨_,_,_,q,_⟩:=S.run.split he3
   rw[hj] at q
   have hm:base + j∈kept fl base ((Y1 ++ x :: Y2).map (·.i)):=zbcf (z4g q.symm) _ (by simp)
   exact⟨ztt _ hend.1 hm,ztt _ hend.2 hm⟩
  have hrelA:=I.rel
  rw[hHL] at hrelA
  have hextA:=I.ext
  rw[hHL] at hextA
  have relS:Rel N w₀ ρ s.H w:=by
   refine hrelA.shrink (zfl _ _ _).symm fun b x hb=>?_
   rcases zls (base:=base) (mm L) Y s.H s.H (fun x hx j hj=>⟨(freeY x hx j hj).1.2,(freeY x hx j hj).1.2⟩) b with⟨⟨x',hx',j,hj,_,rfl⟩,_⟩ | ⟨q,_⟩
   ·rw[(freeY x' hx' j hj).1.1] at hb;cases hb
   ·rw[q];exact hb
  rw[hk] at hstep
  have hgd:gdM P σ ops s.o s.env s.H=some (s.v,s.H'):=hstep
  rw[hgdE] at hgd
  have:=zbu9 (Q:=Q) (K:=K) S.hσ S.hG relS I.env hgd fun r' w' ⟨ρ',g1,g2,g3⟩=>by
   obtain⟨q1,q2⟩:=zb62 hrelA g2 g3 fun x hx j hj=>⟨(freeY x hx j hj).1.1,(freeY x hx j hj).1.2,(freeY x hx j hj).2.1⟩
   have hveq:zbv (cnt X + 1) Hs tr=s.H':=by
    rw[he,show cnt X + 1=cnt X + (0 + 1) by omega,z1g]
    simp[zbv,hsc]
   have haeq:after (cnt X + 1) tr=Y:=by
    rw[he,show cnt X + 1=cnt X + (0 + 1) by omega,z1h]
    simp[after,hsc]
   have hfs:zbx (mm (L.setIfInBounds s.i true)) base Y s.H'=zbx (mm L) base Y s.H':=by
    refine zjs _ _ _ _ fun x hx j hj=>?_
    rw[hset,if_neg (hneY x hx)]
   refine hK _ w' ρ' (cnt X + 1) ⟨hsize,hdown,?_,fun X' s' Y' he' hs'=>?_,?_,envOf g3.le g1,?_,hfree fun X' s' Y' j h1 h2 h3 h4=>?_,?_⟩
   ·rw[he,zbvb hsc];omega
   ·rw[hset]
    split
    ·rename_i qq
     obtain⟨rfl,rfl,_⟩:=uniq he' qq
     simp
    ·rename_i qq
     rw[I.chain X' s' Y' he' hs']
     constructor
     ·intro h;omega
     ·intro h
      rcases Nat.lt_or_ge (cnt X') (cnt X) with h5 | h5
      ·exact h5
      ·exfalso
       have heq:cnt X'=cnt X:=by omega
       have key:∀ (A B:List Tr) (u v:Tr) (C D:List Tr),A ++ u :: C=B ++ v :: D→u.kd.isChain=true→v.kd.isChain=true→cnt A=cnt B→u=v:=by
        intro A
        induction A with
        | nil =>
         intro B u v C D h hu hv hc
         cases B with
         | nil=>simp at h;exact h.1
         | cons b B=>simp at h;rw[← h.1] at hc;simp[cnt,hu] at hc;omega
        | cons x A ih =>
         intro B u v C D h hu hv hc
         cases B with
         | nil=>simp at h;rw[h.1] at hc;simp[cnt,hv] at hc
         | cons b B=>simp at h;rw[h.1] at hc;exact ih B u v C D h.2 hu hv (by simp only[cnt] at hc;omega)
       have:=key X' X s' s Y' Y (he'.symm.trans he) hs' hsc heq
       exact qq (by rw[this])
   ·rw[haeq,hveq,hfs];exact q1
   ·rw[haeq,hveq,hfs];exact hextA.trans q2
   ·have h5:=I.free X' s' Y' j h1 h2 h4
    have hin:s'∈Y∨s'∈X:=by
     have:s'∈tr:=by rw[h1];simp
     rw[he] at this
     rcases List.mem_append.1 this with q | q
     ·exact .inr q
     ·rcases List.mem_cons.1 q with q | q
      ·exact absurd (by rw[q]) h3
      ·exact .inl q
    rcases hin with hin | hin
    ·rw[g3.same _ (freeY s' hin j h2).1.2];exact h5
    ·exact absurd (sideX s' hin ((pX s' hin).2.2 (by rw[h2];rfl) hsc)) (by rw[h4];simp)
   ·rw[z1e];exact I.defers
  split
  ·rename_i hw;rw[if_pos hw] at this;exact .inl this
  ·rename_i hw;rw[if_neg hw] at this;exact this
 | float j =>
  rw[hk] at hstep hkd
  obtain⟨hg0,hmk,x,v0,hact,hv,hno,hlt2,hH'⟩:=hstep
  have hsf:s.kd.isFloat=true:=by rw[hk];rfl
  have hsc:s.kd.isChain=false:=by rw[hk];rfl
  have hkX:k≤cnt X:=by
   rcases Nat.lt_or_ge (cnt X) k with q | q
   ·exfalso
    have hq2:cnt X < cnt tr:=Nat.lt_of_lt_of_le q I.kle
    obtain⟨X1,p,X2,g1,g2,g3⟩:=z4h tr (cnt X) hq2
    have hm:=(I.chain X1 p X2 g1 g2).2 (by omega)
    have hp:p∈X∨p∈Y:=by
     have:p∈tr:=by rw[g1];simp
     rw[he] at this
     rcases List.mem_append.1 this with q | q
     ·exact .inl q
     ·rcases List.mem_cons.1 q with q | q
      ·rw[q,hsc] at g2;cases g2
      ·exact .inr q
    rcases hp with hp | hp
    ·-- a chain operation ahead of it has a smaller number
     obtain⟨A,B,h1⟩:=List.append_of_mem hp
     have he3:tr=A ++ p :: (B ++ s :: Y):=by rw[he,h1];simp
     have h2:cnt X=cnt A + 1 + cnt B:=by rw[h1];exact zbvb g2
     have key:∀ (A B:List Tr) (u v:Tr) (C D:List Tr),A ++ u :: C=B ++ v :: D→u.i=v.i→(∀ p∈A,p.i≠v.i)→(∀ p∈B,p.i≠u.i)→A=B:=by
      intro A
      induction A with
      | nil=>intro B u v C D h hi hA hB;cases B with
       | nil=>rfl
       | cons b B=>simp at h;exact absurd (by rw[h.1]) (hB b (by simp))
      | cons x A ih=>intro B u v C D h hi hA hB;cases B with
       | nil=>simp at h;exact absurd (by rw[h.1]) (hA x (by simp))
       | cons b B=>simp at h;rw[h.1,ih B u v C D h.2 hi (fun p hp=>hA p (by simp[hp])) (fun p hp=>hB p (by simp[hp]))]
     have:=key A X1 p p _ _ (he3.symm.trans g1) rfl (fun y hy=>(S.ne he3).1 y hy) (fun y hy=>(S.ne g1).1 y hy)
     rw[this] at h2;omega
    ·have:=(pY p hp).2.2 hsf g2
     rw[this] at hm;cases hm
   ·exact q
  have hD:after k tr=after k X ++ s :: Y:=by rw[he];exact zbcg X _ _ hkX
  have hidx:zx6 fl s.i=some j:=z4g hkd.symm
  have otherId:∀ y∈tr,∀ j',y.kd = .float j'→y.i≠s.i→base + j'≠base + j:=by
   intro y hy j' hj' hne e
   obtain⟨A,B,h1⟩:=List.append_of_mem hy
   obtain⟨_,_,_,q,_⟩:=S.run.split h1
   rw[hj'] at q
   have:j'=j:=by omega
   rw[this] at q
   exact hne (zbmh fl (z4g q.symm) hidx)
  have hsin:s∈after k tr:=by rw[hD];simp
  have hver:=freeV s hsin j hk
  have hblk:s.H'.get (base + j)=some x:=by rw[hH',Heap.get_set _ _ _ _ hlt2];simp
  have hget:∀ b,(zbx (mm (L.setIfInBounds s.i true)) base (after k tr) (zbv k Hs tr)).get b=((zbx (mm L) base (after k tr) (zbv k Hs tr)).set (base + j) (some x)).get b:=by
   intro b
   rw[hD,zm7,zm7]
   have e1:zbx (mm (L.setIfInBounds s.i true)) base (after k X) (zbv k Hs tr)=zbx (mm L) base (after k X) (zbv k Hs tr):=by
    refine zjs _ _ _ _ fun y hy j' hj'=>?_
    have:y∈X:=by
     obtain⟨X1,h1,_⟩:=zjx k X hkX
     rw[h1];simp[hy]
    rw[hset,if_neg (hneX y this)]
   rw[e1]
   have hm1:mm (L.setIfInBounds s.i true) s.i=true:=by rw[hset];simp
   simp only[zbx,hk,hm1,if_true,hu,Bool.false_eq_true,if_false,hblk]
   have e2:∀ G,zbx (mm (L.setIfInBounds s.i true)) base Y G=zbx (mm L) base Y G:=fun G=>zjs _ _ _ _ fun y hy j' hj'=>by rw[hset,if_neg (hneY y hy)]
   rw[e2]
   have hYids:∀ y∈Y,∀ j',y.kd = .float j'→mm L y.i=true→base + j'≠base + j:=fun y hy j' hj' _=>otherId y (by rw[he];simp[hy]) j' hj' (hneY y hy)
   have hnx:base + j < (zbx (mm L) base (after k X) (zbv k Hs tr)).next:=by rw[zfl];exact hver.2
   by_cases hb:b=base + j
   ·subst hb
    rw[z4f (mm L) Y _ hYids,Heap.get_set _ _ _ _ hnx,Heap.get_set _ _ _ _ (by rw[zfl];exact hnx)]
    simp
   ·rw[Heap.get_set_ne _ _ _ hb]
    rcases zls (base:=base) (mm L) Y ((zbx (mm L) base (after k X) (zbv k Hs tr)).set (base + j) (some x)) (zbx (mm L) base (after k X) (zbv k Hs tr)) (fun y hy j' hj'=>by
     have h1:=freeV y (by rw[hD];simp[hy]) j' hj'
     rw[Heap.next_set,zfl];exact⟨h1.2,h1.2⟩) b with⟨_,q⟩ | ⟨q1,q2⟩
    ·exact q
    ·rw[q1,q2,Heap.get_set_ne _ _ _ hb]
  have hfreeA:(zbx (mm L) base (after k tr) (zbv k Hs tr)).get (base + j)=none:=by
   rw[z4f (mm L) (after k tr) _ fun y hy j' hj' hm=>otherId y (afterSub y hy) j' hj' fun e=>by rw[e,hu] at hm;cases hm]
   exact hver.1
  have hρ:=I.free X s Y j he hk hu
  have hw:Region.wanted s.o (yielded ops a.tmps)=true:=by simp[Region.wanted,hg0]
  rw[if_pos hw]
  left
  have hactE:actM P (evO P (zfb n (mm L) tr e0)) s.o.op Heap.none0=some (v0,Heap.one x):=by
   rw[← zbh2 s.o.op (e:=evO P s.env) fun z hz=>zbmg z fun t ht=>hen t (by
    have:zc6 ops s.o=some none:=by simp[zc6,hg0]
    simp only[zbfx,this];exact zbh3 hz ht)]
   exact hact
  obtain⟨x2,hx2,r',w',hrun,hmko⟩:=zbyu (P:=P) I.rel.big (z7v S.hG I.rel I.env) s.o hmk hactE
  cases hx2
  unfold Oper.wp
  rw[hrun]
  show K (a.put s.o.dst r') w'
  obtain⟨ob,nd,sz,rfl,hB,hV⟩:=hmko
  have hle:ρ.le (ρ.add (base + j) ⟨w.heap.size,0,sz⟩):=Ren.le_add _ hρ
  have hadd:ρ.add (base + j) ⟨w.heap.size,0,sz⟩ (base + j)=some ⟨w.heap.size,0,sz⟩:=by simp[Ren.add]
  have hheap:∀ c,c < w.heap.size→(({ w with drawn:=nd }:World).alloc ob).heap[c]? = w.heap[c]? := by
   intro c hc
   show (w.heap.push ob)[c]? = _
   rw[Array.getElem?_push,if_neg (by omega)]
  have hnext:base + j < (zbx (mm L) base (after k tr) (zbv k Hs tr)).next:=by rw[zfl];exact hver.2
  have hR:Rel N w₀ (ρ.add (base + j) ⟨w.heap.size,0,sz⟩) ((zbx (mm L) base (after k tr) (zbv k Hs tr)).set (base + j) (some x)) (({ w with drawn:=nd }:World).alloc ob):=by
   refine⟨I.rel.below.trans ⟨rfl,rfl,rfl,by simp,fun c hc=>hheap c (Nat.lt_of_lt_of_le hc I.rel.big)⟩,?_,fun b hb=>?_,fun b hb=>?_,fun b y hb=>?_,fun b b' y y' L1 L2 hb hb' hne hL1 hL2=>?_⟩
   ·have:=I.rel.big;simp;omega
   ·rw[Heap.next_set] at hb
    unfold Ren.add;rw[if_neg (by omega)];exact I.rel.dom b hb
   ·obtain⟨z,hz⟩:=I.rel.base b hb;exact⟨z,hle _ _ hz⟩
   ·rw[Heap.get_set _ _ _ _ hnext] at hb
    split at hb
    ·rename_i e;cases hb;subst e;exact⟨_,hadd,hB _ hle⟩
    ·obtain⟨L1,hL1,hr⟩:=I.rel.blk b y hb
     exact⟨L1,hle _ _ hL1,hr.mono hle (hheap _ (I.rel.lt hb hL1))⟩
   ·rw[Heap.get_set _ _ _ _ hnext] at hb hb'
    unfold Ren.add at hL1 hL2
    by_cases e1:b=base + j
    ·have e2:b'≠base + j:=fun q=>hne (e1.trans q.symm)
     rw[if_pos e1] at hL1;rw[if_neg e2] at hb' hL2;cases hL1
     have:=I.rel.lt hb' hL2
     intro q;rw[← q] at this;exact Nat.lt_irrefl _ this
    ·by_cases e2:b'=base + j
     ·rw[if_neg e1] at hb hL1;rw[if_pos e2] at hL2;cases hL2
      have:=I.rel.lt hb hL1
      intro q;rw[q] at this;exact Nat.lt_irrefl _ this
     ·rw[if_neg e1] at hb hL1;rw[if_neg e2] at hb' hL2
      exact I.rel.inj b b' y y' L1 L2 hb hb' hne hL1 hL2
  have hE:Ext ρS HS wS (ρ.add (base + j) ⟨w.heap.size,0,sz⟩) ((zbx (mm L) base (after k tr) (zbv k Hs tr)).set (base + j) (some x)) (({ w with drawn:=nd }:World).alloc ob):=by
   refine⟨I.ext.le.trans hle,fun b hb=>?_,by rw[Heap.next_set];exact I.ext.next,⟨?_,fun c hc hn=>?_⟩,fun b y L1 hb hL1=>?_⟩
   ·unfold Ren.add;rw[if_neg (by omega)];exact I.ext.same b hb
   ·have:=I.ext.apart.1;simp;omega
   ·rw[hheap c (Nat.lt_of_lt_of_le hc I.ext.apart.1)];exact I.ext.apart.2 c hc hn
   ·rw[Heap.get_set _ _ _ _ hnext] at hb
    unfold Ren.add at hL1
    split at hb
    ·rename_i e;rw[if_pos e] at hL1;cases hL1;exact .inl I.ext.apart.1
    ·rename_i e;rw[if_neg e] at hL1;exact I.ext.old b y L1 hb hL1
  have hnx2:(zbx (mm (L.setIfInBounds s.i true)) base (after k tr) (zbv k Hs tr)).next=((zbx (mm L) base (after k tr) (zbv k Hs tr)).set (base + j) (some x)).next:=by rw[Heap.next_set,zfl,zfl]
  refine hK _ _ _ k ⟨hsize,hdown,I.kle,hchainSame hsc,hR.congr hnx2 hget,envOf hle (by rw[hv];exact hV _ _ hadd),hE.congr hnx2 hget,hfree fun X' s' Y' j' h1 h2 h3 h4=>?_,by rw[z1e];exact I.defers⟩
  unfold Ren.add
  rw[if_neg (otherId s' (by rw[h1];simp) j' h2 h3)]
  exact I.free X' s' Y' j' h1 h2 h4
end Go.AM

/- Regions whose order is drawn: whatever is drawn. -/
namespace Go.AM
open Go.RowKit (Below)
variable {P:Program} {N:Nat} {w₀:World} {ρ:Ren} {H:Heap} {w:World} {σ:zx} {n:Nat} {ops:Array Oper} {fl:List Nat} {base:Nat}
theorem zbmi:∀ (l:List Bool) (i:Nat),l[i]? = some false→(l.set i true).countP id=l.countP id + 1
 | [],i,h=>by simp at h
 | b :: l,0,h=>by simp at h;subst h;simp
 | b :: l,i + 1,h=>by
  have:=zbmi l i (by simpa using h)
  cases b <;> simp[List.countP_cons,this] <;> omega
theorem zbwy (l:List Bool) (h:l.countP id=l.length):∀ b∈l,b=true:=fun b hb=>by
 have:=List.countP_eq_length.mp h b hb
 simpa using this
section
variable {perm:List Nat} {e0:Env} {Hs:Heap} {tr:List Tr} {ef:Env} {Hf:Heap} {ρS:Ren} {HS:Heap} {wS:World} {aS:Act}
theorem zby5 (S:Stat P σ n ops fl base N perm e0 Hs tr ef Hf) {L:Array Bool} {a:Act} {k:Nat} (I:Inv n ops base N w₀ e0 Hs tr ρS HS wS aS L a w ρ k) (hall:∀ X s Y,tr=X ++ s :: Y→mm L s.i=true) :
  Rel N w₀ ρ Hf w∧EnvRel n ρ ef a∧Ext ρS HS wS ρ Hf w∧a.defers=aS.defers:=by
 have hk:k=cnt tr:=by
  rcases Nat.lt_or_ge k (cnt tr) with q | q
  ·obtain⟨X1,p,X2,g1,g2,g3⟩:=z4h tr k q
   have:=(I.chain X1 p X2 g1 g2).1 (hall X1 p X2 g1)
   omega
  ·have:=I.kle;omega
 have hmem:∀ s∈tr,mm L s.i=true:=fun s hs=>by
  obtain⟨X,Y,h⟩:=List.append_of_mem hs
  exact hall X s Y h
 have hsub:∀ s∈after k tr,s∈tr:=by
  intro s hs
  obtain⟨X1,h1,_⟩:=zjx k tr I.kle
  rw[h1];simp[hs]
 have hHf:zbx (mm L) base (after k tr) (zbv k Hs tr)=Hf:=by
  rw[(zbqb S.run Hs [] rfl).2,← hk]
  rw[zjs (mm L) (fun _=>true) (after k tr) _ fun s hs j hj=>hmem s (hsub s hs)]
  by_cases hz:k=0
  ·rw[if_pos hz];subst hz;simp[after]
  ·rw[if_neg hz]
 have hef:∀ t,zfb n (mm L) tr e0 t=ef t:=by
  intro t
  rw[S.run.env_end]
  exact zbes (mm L) tr e0 e0 (fun p hp _=>hmem p hp) rfl
 exact⟨by rw[← hHf];exact I.rel,⟨I.env.size,fun t=>by rw[← hef];exact I.env.slot t⟩,by rw[← hHf];exact I.ext,I.defers⟩
theorem zbqc (S:Stat P σ n ops fl base N perm e0 Hs tr ef Hf) {L:Array Bool} (hsz:L.size=ops.size) (hr:Region.ready .any ops L=[]):∀ (m:Nat) X s Y,X.length=m→tr=X ++ s :: Y→mm L s.i=true:=by
 intro m
 induction m using Nat.strongRecOn with
 | _ m ih =>
  intro X s Y hm he
  cases hu:mm L s.i with
  | true=>rfl
  | false =>
   obtain⟨o,h1,_,_,h2,_⟩:=zqp perm [] S.ord (X.map (·.i)) s.i (Y.map (·.i)) (S.perm_eq he)
   have:s.i∈Region.ready .any ops L:=by
    refine zby4 hsz h1 hu fun e hee hb=>?_
    rcases h2 e hee hb with q | q
    ·simp at q
    ·obtain⟨p,hp,hpe⟩:=List.mem_map.1 q
     obtain⟨A,B,hAB⟩:=List.append_of_mem hp
     have he2:tr=A ++ p :: (B ++ s :: Y):=by rw[he,hAB];simp
     have:=ih A.length (by rw[← hm,hAB];simp) A p _ rfl he2
     rw[← hpe];exact this
   rw[hr] at this;simp at this
theorem zby6 (S:Stat P σ n ops fl base N perm e0 Hs tr ef Hf) (hbase:HS.next=base) {Q:Exit→Act→World→Prop} (hq:∀ ρ' w' a',Rel N w₀ ρ' Hf w'→EnvRel n ρ' ef a'→Ext ρS HS wS ρ' Hf w'→a'.defers=aS.defers→Q .normal a' w') :
  ∀ (fuel:Nat) (L:Array Bool) (a:Act) (w:World) (ρ:Ren) (k:Nat),Inv n ops base N w₀ e0 Hs tr ρS HS wS aS L a w ρ k→fuel + L.toList.countP id=ops.size→wpAny P .any ops Q fuel L a w
 | 0,L,a,w,ρ,k,I,hc=>by
  have hall:=zbwy L.toList (by rw[Array.length_toList,I.size];omega)
  have hmm:∀ i,i < ops.size→mm L i=true:=by
   intro i hi
   have hL:i < L.size:=by rw[I.size];exact hi
   have:=hall L[i] (by simp)
   simpa[mm,hL] using this
  have hready:Region.ready .any ops L=[]:=by
   cases hr:Region.ready .any ops L with
   | nil=>rfl
   | cons i r =>
    obtain⟨h1,h2,_⟩:=zbao I.size (i:=i) (by rw[hr];simp)
    rw[hmm i h1] at h2;cases h2
  have:=zby5 S I fun X s Y he=>by
   obtain⟨_,_,ho,_⟩:=S.run.split he
   have:s.i < ops.size:=by
    rcases Nat.lt_or_ge s.i ops.size with q | q
    ·exact q
    ·simp[Array.getElem?_eq_none q] at ho
   exact hmm _ this
  exact⟨hready,hq ρ w a this.1 this.2.1 this.2.2.1 this.2.2.2⟩
 | fuel + 1,L,a,w,ρ,k,I,hc=>by
  refine⟨fun hr=>?_,fun i hi=>?_⟩
  ·have:=zby5 S I fun X s Y he=>zbqc S I.size hr X.length X s Y rfl he
   exact hq ρ w a this.1 this.2.1 this.2.2.1 this.2.2.2
  ·obtain⟨h1,h2,_⟩:=zbao I.size hi
   have hL:i < L.size:=by rw[I.size];exact h1
   refine step S hbase I hi fun a' w' ρ' k' I'=>zby6 S hbase hq fuel _ a' w' ρ' k' I' ?_
   have:L.toList[i]? = some false:=by
    have:L[i]=false:=by simpa[mm,hL] using h2
    simp[hL,this]
   rw[Array.toList_setIfInBounds,zbmi _ _ this]
   omega
end
theorem zvq:∀ (m:Nat) (H:Heap),(∀ b,(zuy H m).get b=H.get b)∧(zuy H m).next=H.next + m
 | 0,H=>⟨fun b=>rfl,rfl⟩
 | m + 1,H=>by
  obtain⟨h1,h2⟩:=zvq m (H.push none)
  refine⟨fun b=>?_,by show (zuy (H.push none) m).next=_;rw[h2,Heap.next_push];omega⟩
  show (zuy (H.push none) m).get b=_
  rw[h1,Heap.get_push]
  split
  ·rename_i e
   subst e
   cases hg:H.get H.next with
   | none=>rfl
   | some x=>exact absurd (Heap.get_lt hg) (Nat.lt_irrefl _)
  ·rfl
theorem zbqd:∀ (l:List Nat) {i j:Nat},zx6 l i=some j→j < l.length
 | [],i,j,h=>by simp[zx6] at h
 | x :: xs,i,j,h=>by
  simp only[zx6] at h
  cases hb:Nat.beq x i with
  | true=>rw[hb] at h;simp at h;subst h;simp
  | false =>
   rw[hb] at h
   simp only[cond_false] at h
   split at h
   ·rename_i j' hj';cases h;have:=zbqd xs hj';simp;omega
   ·cases h
theorem zbet {H':Heap}:∀ (l:List Nat),(∀ j,j < fl.length→H'.get (base + j)=none∧base + j < H'.next)→zdq H' (kept fl base l)=true
 | [],_=>rfl
 | x :: xs,h=>by
  simp only[kept]
  split
  ·rename_i j hj
   obtain⟨h1,h2⟩:=h j (zbqd fl hj)
   simp only[zdq,h1,zb37 h2,Bool.true_and]
   exact zbet xs h
  ·exact zbet xs h
theorem zbtq {R:Type} (hσ:zd8 P σ) (hG:P.globals.size≤N) {Q:Exit→Act→World→Prop} {r:R} {Hr:Heap} {k:Env→M R} {perm:List Nat} {en:Env} {a:Act} {id:Nat} (h:Rel N w₀ ρ H w) (he:EnvRel n ρ en a)
  (hl:regD P σ n ops perm fl en k H=some (r,Hr))
  (hq:∀ ρ' H' w' en' a',Rel N w₀ ρ' H' w'→EnvRel n ρ' en' a'→Ext ρ H w ρ' H' w'→a'.defers=a.defers→k en' H'=some (r,Hr)→Q .normal a' w'):(Code.region id ops true).wp P Q a w:=by
 unfold regD at hl
 cases hok:okD P ops perm fl with
 | false=>rw[hok] at hl;cases hl
 | true =>
  rw[hok] at hl
  simp only[cond_true] at hl
  simp only[okD,Bool.and_eq_true,List.all_eq_true] at hok
  obtain⟨⟨⟨⟨⟨o1,o2⟩,o3⟩,o4⟩,_⟩,_⟩:=hok
  obtain⟨tr,ef,Hf,hrun,hk⟩:=zbp8 perm en (zuy H fl.length) [] hl
  simp only[List.nil_append] at hk
  obtain⟨hk1,hk2⟩:=zx9 tr 0 hk
  obtain⟨hg,hn⟩:=zvq fl.length H
  have hfree0:∀ b,H.next≤b→H.get b=none:=fun b hb=>by
   cases hg:H.get b with
   | none=>rfl
   | some x=>exact absurd (Heap.get_lt hg) (by omega)
  have S:Stat P σ n ops fl H.next N perm en (zuy H fl.length) tr ef Hf :=
   ⟨hσ,hG,hrun,o3,fun i hi=>by have:=o2 i (by simpa using hi);simpa using this,o4,fun X s Y e hs kk HH hv hne hco=>hk2 X s Y e hs kk HH hv (by simpa using hne) hco,
    zbet perm fun j hj=>⟨by rw[hg];exact hfree0 _ (by omega),by omega⟩⟩
  have hrel:Rel N w₀ ρ (zuy H fl.length) { w with drawn:=w.drawn + 1 } := by
   have h':=h.drew (w.drawn + 1)
   exact⟨h'.below,h'.big,fun b hb=>h'.dom b (by omega),h'.base,fun b x hb=>h'.blk b x (by rw[← hg];exact hb),fun b b' x x' L L' hb hb'=>h'.inj b b' x x' L L' (by rw[← hg];exact hb) (by rw[← hg];exact hb')⟩
  have hext:Ext ρ H w ρ (zuy H fl.length) { w with drawn:=w.drawn + 1 } :=
   ⟨.refl _,fun _ _=>rfl,by omega,⟨Nat.le_refl _,fun _ _ _=>rfl⟩,fun b x L hb hL => .inr ⟨b,x,L,by rw[← hg];exact hb,hL,rfl⟩⟩
  have hmm:∀ i,mm (Array.replicate ops.size false) i=false:=by
   intro i
   unfold mm
   rw[Array.getD_eq_getD_getElem?,Array.getElem?_replicate]
   split <;> rfl
  have hset0:∀ (B:List Tr) (G:Heap),zbx (mm (Array.replicate ops.size false)) H.next B G=G:=by
   intro B G
   have h1:=zjs (base:=H.next) (mm (Array.replicate ops.size false)) (fun _=>false) B G (fun s _ j _=>hmm s.i)
   rw[h1]
   clear h1
   induction B generalizing G with
   | nil=>rfl
   | cons s B ih=>unfold zbx;cases s.kd <;> simp[ih]
  have hcur0:∀ (B:List Tr) (e:Env),zfb n (mm (Array.replicate ops.size false)) B e=e:=by
   intro B e
   rw[z7x (mm (Array.replicate ops.size false)) (fun _=>false) B e (fun s _=>hmm s.i)]
   induction B generalizing e with
   | nil=>rfl
   | cons s B ih=>simp[zfb,ih]
  refine wp_region_any o1 (zby6 S rfl (ρS:=ρ) (HS:=H) (wS:=w) (aS:=a) (fun ρ' w' a' q1 q2 q3 q4=>hq ρ' Hf w' ef a' q1 q2 q3 q4 hk1) ops.size _ a _ ρ 0 ?_ ?_)
  ·refine⟨by simp,(fun i hi=>by rw[hmm] at hi;cases hi),by omega,(fun X s Y _ _=>by rw[hmm];simp),?_,?_,?_,fun X s Y j e hj _=>?_,rfl⟩
   ·rw[hset0];simpa[zbv] using hrel
   ·rw[hcur0];exact he
   ·rw[hset0];simpa[zbv] using hext
   ·exact h.dom _ (by omega)
  ·simp
end Go.AM

/- Code and functions on the abstract machine. -/
namespace Go.AM
open Go.RowKit (Below)
inductive Hint where
 | leaf
 | reg (perm fl:List Nat)
 | seq (la:List Nat) (a b:Hint)
 | cond (a b:Hint)
 | blk (a:Hint)
 | loop (l:List Nat) (a:Hint)
 | scp (a:Hint)
def zb38:Code→Bool | .region _ _ _=>true | _=>false
def regK {R:Type} (P:Program) (σ:zx) (n:Nat) (c:Code) (h:Hint) (e:Env) (k:Env→M R):M R:=match c with
 | .region _ ops false=>zbeh P σ n ops ops.toList e k
 | .region _ ops true=>match h with
  | .reg perm fl=>regD P σ n ops perm fl e k
  | _=>fail
 | _=>fail
def zbqe (id:Nat):List (Nat × List Nat)→Option (List Nat)
 | []=>none
 | (i,l) :: r=>bif Nat.beq i id then some l else zbqe id r
def den (P:Program) (σ:zx) (n:Nat) (R:List Nat):Code→Hint→List (Nat × List Nat)→List Nat→Env→M Out
 | .skip,_,_,nl,e=>ret (.nxt (zv0 nl e))
 | .label _,_,_,nl,e=>ret (.nxt (zv0 nl e))
 | .region id ops d,h,_,nl,e=>regK P σ n (.region id ops d) h e fun e'=>ret (.nxt (zv0 nl e'))
 | .seq a b,.seq la ha hb,Γ,nl,e=>bif zb38 a then regK P σ n a ha e fun e'=>den P σ n R b hb Γ nl e'
  else zb (den P σ n R a ha Γ la e) fun o=>nx o fun vs=>den P σ n R b hb Γ nl (z36 la vs)
 | .cond c a b,.cond ha hb,Γ,nl,e=>zp (evO P e c) (den P σ n R a ha Γ nl e) (den P σ n R b hb Γ nl e)
 | .block id a,.blk ha,Γ,nl,e=>zb (den P σ n R a ha ((id,nl) :: Γ) nl e) fun o=>ret (zv id o)
 | .loop a,.loop l ha,Γ,_,e=>zba zbm (fun vs=>den P σ n R a ha Γ l (z36 l vs)) (zv0 l e)
 | .exit id,_,Γ,_,e=>match zbqe id Γ with | some l=>ret (.brk id (zv0 l e)) | none=>fail
 | .ret,_,_,_,e=>ret (.ret (zv0 R e))
 | .scope a,.scp ha,Γ,nl,e=>den P σ n R a ha Γ nl e
 | _,_,_,_,_=>fail
def zqq:List ResultVar→List Nat
 | []=>[]
 | .tmp t :: r=>t :: zqq r
 | .cell a _ :: r=>a :: zqq r
def resM (P:Program) (e:Env):List ResultVar→(List V→M V)→M V
 | [],k=>k []
 | .tmp t :: r,k=>resM P e r fun l=>k (e t :: l)
 | .cell a t :: r,k=>match tk P t with
  | some .one=>zb (zz (e a)) fun v=>resM P e r fun l=>k (v :: l)
  | some (.agg n)=>zb (ldn n (e a)) fun v=>resM P e r fun l=>k (v :: l)
  | none=>fail
def zbi (l:List V):V:=match l with
 | [v]=>v
 | l => .tuple l.toArray
def envOf (args:List V):Env:=fun i=>args.getD i undef
def zbk (o:Out) (k:List V→M V):M V:=match o with
 | .nxt vs=>k vs
 | .ret vs=>k vs
 | .brk _ _=>fail
def funM (P:Program) (σ:zx) (f:Nat) (h:Hint) (args:List V):M V:=match P.funcs[f]? with
 | none=>fail
 | some fn=>match fn.body with
  | none=>fail
  | some c=>bif Nat.ble args.length fn.ntmps then
    zb (den P σ fn.ntmps (zqq fn.results.toList) c h [] (zqq fn.results.toList) (envOf args)) fun o=>zbk o fun vs =>
     resM P (z36 (zqq fn.results.toList) vs) fn.results.toList fun l=>ret (zbi l)
   else fail
variable {P:Program} {N:Nat} {w₀:World} {ρ:Ren} {H:Heap} {w:World} {σ:zx} {n:Nat}
def zbh8 (l:List Nat) (vs:List V) (ρ:Ren) (a:Act):Prop:=∀ j t,l[j]? = some t→VRel ρ (vs.getD j undef) (a.tmps.getD t undef)
theorem zjy {en:Env} {a:Act} (he:EnvRel n ρ en a):∀ (l:List Nat),zbh8 l (zv0 l en) ρ a
 | [],j,t,h=>by simp at h
 | x :: xs,0,t,h=>by simp at h;subst h;simpa[zv0] using he.slot x
 | x :: xs,j + 1,t,h=>by
  have:=zjy he xs j t (by simpa using h)
  simpa[zv0] using this
theorem z4i {a:Act} {vs:List V}:∀ (l:List Nat) (j:Nat),(∀ i t,l[i]? = some t→VRel ρ (vs.getD (j + i) undef) (a.tmps.getD t undef))→∀ t,VRel ρ (z1a l j vs t) (a.tmps.getD t undef)
 | [],j,h,t => .undef _
 | x :: xs,j,h,t=>by
  simp only[z1a]
  cases hb:Nat.beq t x with
  | true =>
   have:=Nat.eq_of_beq_eq_true hb;subst this
   simpa using h 0 t rfl
  | false=>exact z4i xs (j + 1) (fun i t' hi=>by have:=h (i + 1) t' (by simpa using hi);rwa[show j + (i + 1)=j + 1 + i by omega] at this) t
theorem z1j {l:List Nat} {vs:List V} {a:Act} (hs:a.tmps.size=n) (h:zbh8 l vs ρ a):EnvRel n ρ (z36 l vs) a :=
 ⟨hs,z4i l 0 fun i t hi=>by simpa using h i t hi⟩
def Ends (R:List Nat) (Γ:List (Nat × List Nat)) (nl:List Nat) (o:Out) (ρ:Ren) (ex:Exit) (a:Act):Prop:=match o with
 | .nxt vs=>ex = .normal∧zbh8 nl vs ρ a
 | .brk id vs=>ex = .exit id∧∃ l,zbqe id Γ=some l∧zbh8 l vs ρ a
 | .ret vs=>ex = .ret∧zbh8 R vs ρ a
theorem zbh9 {R:Type} (hσ:zd8 P σ) (hG:P.globals.size≤N) {Q:Exit→Act→World→Prop} {r:R} {Hr:Heap} {k:Env→M R} {c:Code} {hint:Hint} {en:Env} {a:Act} (h:Rel N w₀ ρ H w) (he:EnvRel n ρ en a)
  (hl:regK P σ n c hint en k H=some (r,Hr))
  (hq:∀ ρ' H' w' en' a',Rel N w₀ ρ' H' w'→EnvRel n ρ' en' a'→Ext ρ H w ρ' H' w'→a'.defers=a.defers→k en' H'=some (r,Hr)→Q .normal a' w'):c.wp P Q a w:=by
 cases c <;> simp only[regK] at hl <;> first | exact (z6 hl).elim | skip
 rename_i id ops d
 cases d with
 | false =>
  exact wp_region_list (zbcb hσ hG ops ops.toList ρ H w en a h he hl hq)
 | true =>
  cases hint <;> simp only[regK] at hl <;> first | exact (z6 hl).elim | skip
  exact zbtq hσ hG h he hl hq
theorem zby8 {c:V} {m1 m2:M Out} {o:Out} {Hr:Heap} (h:zp c m1 m2 H=some (o,Hr)):(c = .bool true∧m1 H=some (o,Hr))∨(c = .bool false∧m2 H=some (o,Hr)):=by
 unfold zp at h
 split at h
 ·exact .inl ⟨rfl,h⟩
 ·exact .inr ⟨rfl,h⟩
 ·exact (z6 h).elim
theorem z7y {α β:Type} {m:M α} {k:α→M β} {r:β} {Hr:Heap} (h:zb m k H=some (r,Hr)):∃ a H1,m H=some (a,H1)∧k a H1=some (r,Hr):=by
 unfold zb at h
 split at h
 ·rename_i a H1 hm;exact⟨a,H1,hm,h⟩
 ·cases h
set_option maxHeartbeats 1000000 in
theorem zbwz (hσ:zd8 P σ) (hG:P.globals.size≤N) (R:List Nat):∀ (c:Code) (hint:Hint) (Γ:List (Nat × List Nat)) (nl:List Nat) (ρ:Ren) (H:Heap) (w:World) (en:Env) (a:Act) (o:Out) (Hr:Heap) (Q:Exit→Act→World→Prop),
  Rel N w₀ ρ H w→EnvRel n ρ en a→den P σ n R c hint Γ nl en H=some (o,Hr) →
  (∀ ρ' w' a' ex,Rel N w₀ ρ' Hr w'→Ext ρ H w ρ' Hr w'→a'.tmps.size=n→a'.defers=a.defers→Ends R Γ nl o ρ' ex a'→Q ex a' w')→c.wp P Q a w:=by
 intro c
 induction c with
 | skip =>
  intro hint Γ nl ρ H w en a o Hr Q h he hl hq
  simp only[den,ret] at hl;cases hl
  exact wp_skip (hq ρ w a .normal h (.refl _ _ _) he.size rfl ⟨rfl,zjy he nl⟩)
 | label l =>
  intro hint Γ nl ρ H w en a o Hr Q h he hl hq
  simp only[den,ret] at hl;cases hl
  exact wp_label (hq ρ w a .normal h (.refl _ _ _) he.size rfl ⟨rfl,zjy he nl⟩)
 | region id ops d =>
  intro hint Γ nl ρ H w en a o Hr Q h he hl hq
  simp only[den] at hl
  refine zbh9 hσ hG h he hl fun ρ' H' w' en' a' q1 q2 q3 q4 q5=>?_
  simp only[ret] at q5;cases q5
  exact hq ρ' w' a' .normal q1 q3 q2.size q4 ⟨rfl,zjy q2 nl⟩
 | seq x y ihx ihy =>
  intro hint Γ nl ρ H w en a o Hr Q h he hl hq
  cases hint <;> simp only[den] at hl <;> first | exact (z6 hl).elim | skip
  rename_i la ha hb
  cases hr:zb38 x with
  | true =>
   rw[hr] at hl
   simp only[cond_true] at hl
   refine wp_seq (zbh9 hσ hG h he hl fun ρ' H' w' en' a' q1 q2 q3 q4 q5=>?_)
   exact ihy hb Γ nl ρ' H' w' en' a' o Hr Q q1 q2 q5 fun ρ2 w2 a2 ex r1 r2 r3 r4 r5=>hq ρ2 w2 a2 ex r1 (q3.trans r2) r3 (r4.trans q4) r5
  | false =>
   rw[hr] at hl
   simp only[cond_false] at hl
   obtain⟨o1,H1,h1,h2⟩:=z7y hl
   refine wp_seq (ihx ha Γ la ρ H w en a o1 H1 _ h he h1 fun ρ' w' a' ex q1 q2 q3 q4 q5=>?_)
   cases o1 with
   | nxt vs =>
    simp only[nx] at h2
    obtain⟨rfl,hs⟩:=q5
    exact ihy hb Γ nl ρ' H1 w' (z36 la vs) a' o Hr Q q1 (z1j q3 hs) h2 fun ρ2 w2 a2 ex r1 r2 r3 r4 r5=>hq ρ2 w2 a2 ex r1 (q2.trans r2) r3 (r4.trans q4) r5
   | brk id vs =>
    simp only[nx,ret] at h2;cases h2
    obtain⟨rfl,hs⟩:=q5
    exact hq ρ' w' a' _ q1 q2 q3 q4 ⟨rfl,hs⟩
   | ret vs =>
    simp only[nx,ret] at h2;cases h2
    obtain⟨rfl,hs⟩:=q5
    exact hq ρ' w' a' _ q1 q2 q3 q4 ⟨rfl,hs⟩
 | cond cnd x y ihx ihy =>
  intro hint Γ nl ρ H w en a o Hr Q h he hl hq
  cases hint <;> simp only[den] at hl <;> first | exact (z6 hl).elim | skip
  rename_i ha hb
  have hv:=z7v hG h he cnd
  rcases zby8 hl with⟨h1,h2⟩ | ⟨h1,h2⟩
  ·rw[h1] at hv
   exact wp_cond_true hv.bool_inv (ihx ha Γ nl ρ H w en a o Hr Q h he h2 hq)
  ·rw[h1] at hv
   exact wp_cond_false hv.bool_inv (ihy hb Γ nl ρ H w en a o Hr Q h he h2 hq)
 | block id x ih =>
  intro hint Γ nl ρ H w en a o Hr Q h he hl hq
  cases hint <;> simp only[den] at hl <;> first | exact (z6 hl).elim | skip
  rename_i ha
  obtain⟨o1,H1,h1,h2⟩:=z7y hl
  simp only[ret] at h2;cases h2
  refine wp_block (ih ha ((id,nl) :: Γ) nl ρ H w en a o1 _ _ h he h1 fun ρ' w' a' ex q1 q2 q3 q4 q5=>?_)
  cases o1 with
  | nxt vs =>
   obtain⟨rfl,hs⟩:=q5
   exact hq ρ' w' a' _ q1 q2 q3 q4 ⟨rfl,hs⟩
  | brk id' vs =>
   obtain⟨rfl,l,hl1,hs⟩:=q5
   simp only[Exit.inBlock]
   simp only[zbqe] at hl1
   by_cases hid:id'=id
   ·subst hid
    have hbq:Nat.beq id' id'=true:=by simp
    rw[hbq] at hl1;simp only[cond_true] at hl1;cases hl1
    rw[if_pos rfl]
    exact hq ρ' w' a' _ q1 q2 q3 q4 (by simp only[zv,hbq,cond_true];exact⟨rfl,hs⟩)
   ·rw[if_neg hid]
    rw[zbme (fun e=>hid e.symm)] at hl1;simp only[cond_false] at hl1
    exact hq ρ' w' a' _ q1 q2 q3 q4 (by simp only[zv,zbme hid,cond_false];exact⟨rfl,l,hl1,hs⟩)
  | ret vs =>
   obtain⟨rfl,hs⟩:=q5
   exact hq ρ' w' a' _ q1 q2 q3 q4 ⟨rfl,hs⟩
 | loop x ih =>
  intro hint Γ nl ρ H w en a o Hr Q h he hl hq
  cases hint <;> simp only[den] at hl <;> first | exact (z6 hl).elim | skip
  rename_i l ha
  have key:∀ (m:Nat) (vs:List V) (ρ:Ren) (H:Heap) (w:World) (a:Act) (Q:Exit→Act→World→Prop),Rel N w₀ ρ H w→a.tmps.size=n→zbh8 l vs ρ a→zba m (fun vs=>den P σ n R x ha Γ l (z36 l vs)) vs H=some (o,Hr) →
    (∀ ρ' w' a' ex,Rel N w₀ ρ' Hr w'→Ext ρ H w ρ' Hr w'→a'.tmps.size=n→a'.defers=a.defers→(∀ vs,o ≠ .nxt vs)→Ends R Γ nl o ρ' ex a'→Q ex a' w')→Code.rounds P x Q m a w:=by
   intro m
   induction m with
   | zero=>intro vs ρ H w a Q _ _ _ hl _;simp only[zba] at hl;exact (z6 hl).elim
   | succ m ihm =>
    intro vs ρ H w a Q h hsz hs hl hq
    simp only[zba] at hl
    obtain⟨o1,H1,h1,h2⟩:=z7y hl
    rw[rounds_succ]
    refine ih ha Γ l ρ H w (z36 l vs) a o1 H1 _ h (z1j hsz hs) h1 fun ρ' w' a' ex q1 q2 q3 q4 q5=>?_
    cases o1 with
    | nxt vs' =>
     obtain⟨rfl,hs'⟩:=q5
     exact ihm vs' ρ' H1 w' a' Q q1 q3 hs' h2 fun ρ2 w2 a2 ex r1 r2 r3 r4 r5 r6=>hq ρ2 w2 a2 ex r1 (q2.trans r2) r3 (r4.trans q4) r5 r6
    | brk id vs' =>
     simp only[ret] at h2;cases h2
     obtain⟨rfl,hs'⟩:=q5
     exact hq ρ' w' a' _ q1 q2 q3 q4 (by simp) ⟨rfl,hs'⟩
    | ret vs' =>
     simp only[ret] at h2;cases h2
     obtain⟨rfl,hs'⟩:=q5
     exact hq ρ' w' a' _ q1 q2 q3 q4 (by simp) ⟨rfl,hs'⟩
  exact wp_loop_rounds zbm (key zbm (zv0 l en) ρ H w a Q h he.size (zjy he l) hl fun ρ' w' a' ex r1 r2 r3 r4 _ r6=>hq ρ' w' a' ex r1 r2 r3 r4 r6)
 | exit id =>
  intro hint Γ nl ρ H w en a o Hr Q h he hl hq
  simp only[den] at hl
  cases hf:zbqe id Γ with
  | none=>rw[hf] at hl;exact (z6 hl).elim
  | some l =>
   rw[hf] at hl
   simp only[ret] at hl;cases hl
   exact wp_exit (hq ρ w a _ h (.refl _ _ _) he.size rfl ⟨rfl,l,hf,zjy he l⟩)
 | ret =>
  intro hint Γ nl ρ H w en a o Hr Q h he hl hq
  simp only[den,AM.ret] at hl;cases hl
  exact wp_ret (hq ρ w a _ h (.refl _ _ _) he.size rfl ⟨rfl,zjy he R⟩)
 | scope x ih =>
  intro hint Γ nl ρ H w en a o Hr Q h he hl hq
  cases hint <;> simp only[den] at hl <;> first | exact (z6 hl).elim | skip
  rename_i ha
  refine wp_scope_straight (ih ha Γ nl ρ H w en a o Hr _ h he hl fun ρ' w' a' ex q1 q2 q3 q4 q5=>?_)
  cases o with
  | nxt vs=>obtain⟨rfl,hs⟩:=q5;exact hq ρ' w' a' _ q1 q2 q3 q4 ⟨rfl,hs⟩
  | brk id vs=>obtain⟨rfl,hs⟩:=q5;exact hq ρ' w' a' _ q1 q2 q3 q4 ⟨rfl,hs⟩
  | ret vs=>obtain⟨rfl,hs⟩:=q5;exact hq ρ' w' a' _ q1 q2 q3 q4 ⟨rfl,hs⟩
 | rangeFunc f params assign body _ _=>intro hint Γ nl ρ H w en a o Hr Q h he hl hq;simp only[den] at hl;exact (z6 hl).elim
 | goto l=>intro hint Γ nl ρ H w en a o Hr Q h he hl hq;simp only[den] at hl;exact (z6 hl).elim
 | refuse why=>intro hint Γ nl ρ H w en a o Hr Q h he hl hq;simp only[den] at hl;exact (z6 hl).elim
end Go.AM

/- Functions on the abstract machine are what the model's functions do. -/
namespace Go.AM
open Go.RowKit (Below)
variable {P:Program} {N:Nat} {w₀:World} {ρ:Ren} {H:Heap} {w:World} {σ:zx} {n:Nat}
theorem zb1l (h:Rel N w₀ ρ H w) {p p' r:V} {H':Heap} {t:TypeId} (ht:tk P t=some .one) (hl:zz p H=some (r,H')) (hp:VRel ρ p p') :
  H'=H∧∃ a r',p' = .pointer (some a)∧VRel ρ r r'∧(loadVar t a).run P w = .ok r' w:=by
 obtain⟨h1,r',h2,h3⟩:=zbl9 (P:=P) h ht hl hp
 unfold zz at hl
 split at hl
 ·obtain⟨L,hL,rfl⟩:=hp.ptr_inv
  exact⟨h1,_,r',rfl,h2,by simpa[Instr.loadAt,Instr.sureAddr] using h3⟩
 ·cases hl
theorem zb1m (h:Rel N w₀ ρ H w) {p p' r:V} {H':Heap} {t:TypeId} {m:Nat} (ht:tk P t=some (.agg m)) (hl:ldn m p H=some (r,H')) (hp:VRel ρ p p') :
  H'=H∧∃ a r',p' = .pointer (some a)∧VRel ρ r r'∧(loadVar t a).run P w = .ok r' w:=by
 obtain⟨h1,r',h2,h3⟩:=zbma (P:=P) h ht hl hp
 unfold ldn at hl
 split at hl
 ·obtain⟨L,hL,rfl⟩:=hp.ptr_inv
  exact⟨h1,_,r',rfl,h2,by simpa[Instr.loadAt,Instr.sureAddr] using h3⟩
 ·cases hl
def zbeu (tmps:Array V):ResultVar→Sem V
 | .tmp t=>pure (tmps.getD t undef)
 | .cell a t=>do loadVar t (← asAddr (tmps.getD a undef))
theorem zbch (h:Rel N w₀ ρ H w) {e:Env} {a:Act} (he:∀ t,VRel ρ (e t) (a.tmps.getD t undef)):∀ (rs:List ResultVar) (k:List V→M V) (r:V) (H':Heap),resM P e rs k H=some (r,H') →
  ∃ l l',LRel ρ l l'∧k l H=some (r,H')∧(rs.mapM (zbeu a.tmps)).run P w = .ok l' w
 | [],k,r,H',hl=>⟨[],[],.nil,hl,by simp⟩
 | .tmp t :: rs,k,r,H',hl=>by
  simp only[resM] at hl
  obtain⟨l,l',h1,h2,h3⟩:=zbch h he rs _ r H' hl
  exact⟨e t :: l,a.tmps.getD t undef :: l',.cons (he t) h1,h2,by simp[zbeu,h3]⟩
 | .cell x t :: rs,k,r,H',hl=>by
  simp only[resM] at hl
  cases hk:tk P t with
  | none=>rw[hk] at hl;exact (z6 hl).elim
  | some kd =>
   rw[hk] at hl
   cases kd with
   | one =>
    simp only at hl
    obtain⟨v,H1,g1,g2⟩:=z7y hl
    obtain⟨e1,ad,v',q1,q2,q3⟩:=zb1l (P:=P) h hk g1 (he x)
    rw[e1] at g2
    obtain⟨l,l',h1,h2,h3⟩:=zbch h he rs _ r H' g2
    exact⟨v :: l,v' :: l',.cons q2 h1,h2,by simp[zbeu,q1,asAddr,q3,h3]⟩
   | agg m =>
    simp only at hl
    obtain⟨v,H1,g1,g2⟩:=z7y hl
    obtain⟨e1,ad,v',q1,q2,q3⟩:=zb1m (P:=P) h hk g1 (he x)
    rw[e1] at g2
    obtain⟨l,l',h1,h2,h3⟩:=zbch h he rs _ r H' g2
    exact⟨v :: l,v' :: l',.cons q2 h1,h2,by simp[zbeu,q1,asAddr,q3,h3]⟩
theorem zby9 {l l':List V} (h:LRel ρ l l'):VRel ρ (zbi l) (if hs:l'.toArray.size=1 then l'.toArray[0] else .tuple l'.toArray):=by
 cases h with
 | nil=>simp[zbi];exact .undef _
 | cons h1 h2 =>
  cases h2 with
  | nil=>simpa[zbi] using h1
  | cons h2 h3 =>
   rw[dif_neg (by simp)]
   simp only[zbi]
   exact .tuple' (by simpa using LRel.cons h1 (LRel.cons h2 h3))
theorem zbw0 {args args':List V} (h:LRel ρ args args') (m:Nat) (t:Nat):VRel ρ (envOf args t) ((args'.toArray ++ Array.replicate m undef).getD t undef):=by
 unfold envOf
 rw[Array.getD_eq_getD_getElem?,List.getD_eq_getElem?_getD]
 by_cases ht:t < args.length
 ·obtain⟨v',h1,h2⟩:=h.get t args[t] (by simp[ht])
  have hl:=h.length
  rw[List.getElem?_eq_getElem ht]
  simp only[Option.getD_some]
  rw[Array.getElem?_append,if_pos (by simp;omega)]
  simp only[List.getElem?_toArray,h1,Option.getD_some]
  exact h2
 ·rw[List.getElem?_eq_none (by omega)]
  exact .undef _
theorem zbw1 {f:FuncId} {hint:Hint} (hσ:zd8 P σ):SimF P f (funM P σ f hint):=by
 intro N w₀ ρ H w args args' r H' hG h ha hl
 unfold funM at hl
 cases hf:P.funcs[f]? with
 | none=>rw[hf] at hl;exact (z6 hl).elim
 | some fn =>
  rw[hf] at hl
  simp only at hl
  cases hb:fn.body with
  | none=>rw[hb] at hl;exact (z6 hl).elim
  | some c =>
   rw[hb] at hl
   simp only at hl
   cases hle:Nat.ble args.length fn.ntmps with
   | false=>rw[hle] at hl;simp only[cond_false] at hl;exact (z6 hl).elim
   | true =>
    rw[hle] at hl
    simp only[cond_true] at hl
    have hlen:args.length≤fn.ntmps:=Nat.le_of_ble_eq_true hle
    have hal:=ha.length
    obtain⟨o,H1,h1,h2⟩:=z7y hl
    refine calls_of_wp hf hb ?_
    have he:EnvRel fn.ntmps ρ (envOf args) { tmps:=args'.toArray ++ Array.replicate (fn.ntmps - args'.toArray.size) undef,defers:=[] } :=
     ⟨by simp;omega,fun t=>zbw0 ha _ t⟩
    have fin:∀ (vs:List V) (ρ':Ren) (w':World) (a':Act),Rel N w₀ ρ' H1 w'→Ext ρ H w ρ' H1 w'→a'.defers=[]→zbh8 (zqq fn.results.toList) vs ρ' a' →
      (resM P (z36 (zqq fn.results.toList) vs) fn.results.toList fun l=>ret (zbi l)) H1=some (r,H') →
      a'.defers=[]∧∃ v,(results fn a'.tmps).run P w' = .ok v w'∧∃ r',Ending.returned v = .returned r'∧zxv N w₀ ρ H w r H' r' w':=by
     intro vs ρ' w' a' q1 q2 q3 q4 q5
     obtain⟨l,l',g1,g2,g3⟩:=zbch (P:=P) q1 (z1j (n:=a'.tmps.size) rfl q4).slot fn.results.toList _ r H' q5
     simp only[ret] at g2;cases g2
     refine⟨q3,_,?_,_,rfl,ρ',zby9 g1,q1,q2⟩
     have hm:=z38 (P:=P) (zbeu a'.tmps) fn.results l' w' g3
     have heq:results fn a'.tmps=(do
      let vs ← fn.results.mapM (zbeu a'.tmps)
      pure (if h:vs.size=1 then vs[0] else .tuple vs)):=by
      unfold results
      congr 1
     rw[heq]
     simp only[Sem.run_bind,hm,Result.andThen_ok,Sem.run_pure]
    refine zbwz hσ hG (zqq fn.results.toList) c hint [] (zqq fn.results.toList) ρ H w (envOf args) _ o H1 _ h he h1 fun ρ' w' a' ex q1 q2 q3 q4 q5=>?_
    cases o with
    | nxt vs=>obtain⟨rfl,hs⟩:=q5;exact fin vs ρ' w' a' q1 q2 q4 hs h2
    | ret vs=>obtain⟨rfl,hs⟩:=q5;exact fin vs ρ' w' a' q1 q2 q4 hs h2
    | brk id vs=>simp only[zbk] at h2;exact (z6 h2).elim
def zbvc:List (Nat × (List V→M V))→zx
 | []=>fun _ _=>fail
 | (g,F) :: rest=>fun f=>bif Nat.beq f g then F else zbvc rest f
def zq (P:Program) (f:Nat) (F:List V→M V):Prop:=zv5 P f=true∧SimF P f F
theorem zbtr:zd8 P (zbvc []):=fun f args H r H' h=>by simp[zbvc,fail] at h
theorem z4j {f:Nat} {hint:Hint} {G:List V→M V} (hp:zv5 P f=true) (hσ:zd8 P σ) (h:∀ args H r H',G args H=some (r,H')→funM P σ f hint args H=some (r,H')):zq P f G :=
 ⟨hp,fun N w₀ ρ H w args args' r H' hG hR ha hl=>zbw1 hσ N w₀ ρ H w args args' r H' hG hR ha (h args H r H' hl)⟩
abbrev ap0 (F:M V):List V→M V
 | []=>F
 | _=>fail
theorem kn0 {f:Nat} {hint:Hint} {F:M V} (hp:zv5 P f=true) (hσ:zd8 P σ) (h:funM P σ f hint []=F):zq P f (ap0 F):=z4j (hint:=hint) hp hσ fun l H r H' g=>by
 unfold ap0 at g;split at g
 ·rw[h];exact g
 ·exact (z6 g).elim
abbrev ap1 (F:V→M V):List V→M V
 | [x0]=>F x0
 | _=>fail
theorem kn1 {f:Nat} {hint:Hint} {F:V→M V} (hp:zv5 P f=true) (hσ:zd8 P σ) (h:∀ x0:V,funM P σ f hint [x0]=F x0):zq P f (ap1 F):=z4j (hint:=hint) hp hσ fun l H r H' g=>by
 unfold ap1 at g;split at g
 ·rw[h];exact g
 ·exact (z6 g).elim
abbrev ap2 (F:V→V→M V):List V→M V
 | [x0,x1]=>F x0 x1
 | _=>fail
theorem kn2 {f:Nat} {hint:Hint} {F:V→V→M V} (hp:zv5 P f=true) (hσ:zd8 P σ) (h:∀ x0 x1:V,funM P σ f hint [x0,x1]=F x0 x1):zq P f (ap2 F):=z4j (hint:=hint) hp hσ fun l H r H' g=>by
 unfold ap2 at g;split at g
 ·rw[h];exact g
 ·exact (z6 g).elim
abbrev ap3 (F:V→V→V→M V):List V→M V
 | [x0,x1,x2]=>F x0 x1 x2
 | _=>fail
theorem kn3 {f:Nat} {hint:Hint} {F:V→V→V→M V} (hp:zv5 P f=true) (hσ:zd8 P σ) (h:∀ x0 x1 x2:V,funM P σ f hint [x0,x1,x2]=F x0 x1 x2):zq P f (ap3 F):=z4j (hint:=hint) hp hσ fun l H r H' g=>by
 unfold ap3 at g;split at g
 ·rw[h];exact g
 ·exact (z6 g).elim
abbrev ap4 (F:V→V→V→V→M V):List V→M V
 | [x0,x1,x2,x3]=>F x0 x1 x2 x3
 | _=>fail
theorem kn4 {f:Nat} {hint:Hint} {F:V→V→V→V→M V} (hp:zv5 P f=true) (hσ:zd8 P σ) (h:∀ x0 x1 x2 x3:V,funM P σ f hint [x0,x1,x2,x3]=F x0 x1 x2 x3):zq P f (ap4 F):=z4j (hint:=hint) hp hσ fun l H r H' g=>by
 unfold ap4 at g;split at g
 ·rw[h];exact g
 ·exact (z6 g).elim
end Go.AM

/- What the printed functions are written with. -/
namespace Go.AM
def zd (vs:List V) (i:Nat):V:=vs.getD i undef
def strV (a:V):Option V:=match a with | .string s=>some (.string s) | _=>none
def zd9 (a:V):Option V:=match a with | .string s=>some (i64 s.size) | _=>none
def zw (a:V):Option V:=match a with | .slice _ n _=>some (i64 n) | _=>none
def zbw {R:Type} (m:M V) (k:Heap→V→Heap→M R):M R:=fun H=>match m H with | some (v,H')=>k H v H' H' | none=>none
def ztu {R:Type} (n:Nat) (k:Nat→Heap→M R):M R:=fun H=>k H.next (zuy H n) (zuy H n)
def zh0 {R:Type} (k:Heap→M R):M R:=fun H=>k H H
abbrev noC:zx:=zbvc []
def ovr:List (Nat × (List V→M V))→zx→zx
 | [],S=>S
 | (g,F) :: rest,S=>fun f=>bif Nat.beq f g then F else ovr rest S f
theorem zh {P:Program} {S:zx} {g:Nat} {F:List V→M V} {l:List (Nat × (List V→M V))} (h:zq P g F) (hl:zd8 P (ovr l S)):zd8 P (ovr ((g,F) :: l) S):=by
 intro f args H r H' hr
 simp only[ovr] at hr ⊢
 cases hb:Nat.beq f g with
 | true =>
  have:=Nat.eq_of_beq_eq_true hb;subst this
  simp only[cond_true];exact h
 | false =>
  rw[hb] at hr
  simp only[cond_false] at hr ⊢
  exact hl f args H r H' hr
theorem zl {P:Program}:zd8 P (ovr [] noC):=zbtr
theorem zeg {P:Program} {S:zx} (h:zd8 P S):zd8 P (ovr [] S):=h
@[simp] theorem zb6q (g:Nat) (F:List V→M V) (l:List (Nat × (List V→M V))) (S:zx) (x y:Array V) (args:List V):znw (ovr ((g,F) :: l) S) (.func (.func g) x y) args=F (x.toList ++ (args ++ y.toList)):=by
 simp[znw,ovr]
end Go.AM

/- How runs on the abstract machine are told. -/
namespace Go.AM
def wp {α:Type} (m:M α) (Q:α→Heap→Prop) (H:Heap):Prop:=∃ a H',m H=some (a,H')∧Q a H'
variable {α β:Type} {Q:α→Heap→Prop} {H:Heap}
theorem zbci {m:M α} {Q':α→Heap→Prop} (h:wp m Q H) (hq:∀ a H',Q a H'→Q' a H'):wp m Q' H:=by
 obtain⟨a,H',h1,h2⟩:=h;exact⟨a,H',h1,hq a H' h2⟩
@[simp] theorem wp_ret (a:α):wp (ret a) Q H↔Q a H:=⟨fun ⟨_,_,h1,h2⟩=>by cases h1;exact h2,fun h=>⟨a,H,rfl,h⟩⟩
@[simp] theorem z7 {m:M β} {k:β→M α}:wp (zb m k) Q H↔wp m (fun b H'=>wp (k b) Q H') H:=by
 constructor
 ·rintro⟨a,H',h1,h2⟩
  obtain⟨b,H1,h3,h4⟩:=bnd_inv' h1
  exact⟨b,H1,h3,a,H',h4,h2⟩
 ·rintro⟨b,H1,h3,a,H',h4,h2⟩
  exact⟨a,H',by simp[zb,h3,h4],h2⟩
where
 bnd_inv' {m:M β} {k:β→M α} {r:α} {H':Heap} (h:zb m k H=some (r,H')):∃ b H1,m H=some (b,H1)∧k b H1=some (r,H'):=by
  unfold zb at h
  split at h
  ·rename_i b H1 hm;exact⟨b,H1,hm,h⟩
  ·cases h
def wpO (o:Option α) (Q:α→Prop):Prop:=∃ a,o=some a∧Q a
@[simp] theorem zbcj (a:α) (Q:α→Prop):wpO (some a) Q↔Q a:=by simp[wpO]
@[simp] theorem zb64 (Q:α→Prop):wpO none Q↔False:=by simp[wpO]
@[congr] theorem zb6r {o o':Option α} {Q:α→Prop} (h:o=o'):wpO o Q=wpO o' Q:=by rw[h]
@[congr] theorem zb65 {m m':M α} {Q:α→Heap→Prop} {H:Heap} (h:m=m'):wp m Q H=wp m' Q H:=by rw[h]
@[congr] theorem zb6s {m m':M β} {k:β→M α} (h:m=m'):zb m k=zb m' k:=by rw[h]
@[congr] theorem zb42 {R:Type} {m m':M V} {k:Heap→V→Heap→M R} (h:m=m'):zbw m k=zbw m' k:=by rw[h]
@[congr] theorem zb43 {b b':Bool} {m:M α} (h:b=b'):zdj b m=zdj b' m:=by rw[h]
@[congr] theorem zb39 {c c':V} {m1 m2:M Out} (h:c=c'):zp c m1 m2=zp c' m1 m2:=by rw[h]
@[congr] theorem zb66 {g g':V} {b:Bool} {m:M V} (h:g=g'):gd g b m=gd g' b m:=by rw[h]
@[congr] theorem zb67 {o o':Out} {k:List V→M Out} (h:o=o'):nx o k=nx o' k:=by rw[h]
@[congr] theorem zb44 {o o':Out} {k:List V→M V} (h:o=o'):zbk o k=zbk o' k:=by rw[h]
@[congr] theorem zb4a {n:Nat} {body:List V→M Out} {vs vs':List V} (h:vs=vs'):zba n body vs=zba n body vs':=by rw[h]
@[simp] theorem zbg9 (o:Option α):wp (za o) Q H↔wpO o fun a=>Q a H:=by
 unfold wpO
 cases o with
 | none=>simp[wp,za]
 | some a=>exact⟨fun ⟨_,_,h1,h2⟩=>by cases h1;exact⟨_,rfl,h2⟩,fun ⟨_,h1,h2⟩=>by cases h1;exact⟨_,_,rfl,h2⟩⟩
@[simp] theorem zb71:wp (fail:M α) Q H↔False:=by simp[wp,fail]
@[simp] theorem zb1p (m:M α):wp (zdj true m) Q H↔wp m Q H:=by simp[wp,zdj]
@[simp] theorem zb45 (m1 m2:M Out):zp (.bool true) m1 m2=m1:=rfl
@[simp] theorem zb4b (m1 m2:M Out):zp (.bool false) m1 m2=m2:=rfl
@[simp] theorem zb1q {R:Type} {m:M V} {k:Heap→V→Heap→M R} {Q:R→Heap→Prop}:wp (zbw m k) Q H↔wp m (fun v H'=>wp (k H v H') Q H') H:=by
 constructor
 ·rintro⟨a,H',h1,h2⟩
  unfold zbw at h1
  split at h1
  ·rename_i b H1 hm;exact⟨b,H1,hm,a,H',h1,h2⟩
  ·cases h1
 ·rintro⟨b,H1,h3,a,H',h4,h2⟩
  exact⟨a,H',by simp[zbw,h3,h4],h2⟩
@[simp] theorem zbzb {R:Type} {k:Heap→M R} {Q:R→Heap→Prop}:wp (zh0 k) Q H↔wp (k H) Q H:=by simp[zh0,wp]
@[simp] theorem zpw {R:Type} {n:Nat} {k:Nat→Heap→M R} {Q:R→Heap→Prop}:wp (ztu n k) Q H↔wp (k H.next (zuy H n)) Q (zuy H n):=by simp[ztu,wp]
@[simp] theorem zb72 (b:Bool) (m:M V):gd (.bool b) true m=if b then m else ret zqm:=by cases b <;> simp[gd]
@[simp] theorem zb68 (b:Bool) (m:M V):gd (.bool b) false m=if b then ret zqm else m:=by cases b <;> simp[gd]
@[simp] theorem zb1r (b:Bool) (m:M V):gd zqm b m=ret zqm:=rfl
@[simp] theorem zb46 (vs:List V) (k:List V→M Out):nx (.nxt vs) k=k vs:=rfl
@[simp] theorem zb47 (i:Nat) (vs:List V) (k:List V→M Out):nx (.brk i vs) k=ret (.brk i vs):=rfl
@[simp] theorem zb48 (vs:List V) (k:List V→M Out):nx (.ret vs) k=ret (.ret vs):=rfl
@[simp] theorem zbw2 (i:Nat) (vs:List V):zv i (.nxt vs) = .nxt vs:=rfl
@[simp] theorem zbw3 (i:Nat) (vs:List V):zv i (.ret vs) = .ret vs:=rfl
@[simp] theorem zbw4 (i j:Nat) (vs:List V):zv i (.brk j vs)=if j=i then .nxt vs else .brk j vs:=by
 simp only[zv]
 by_cases h:j=i
 ·subst h;simp
 ·rw[zbme h];simp[h]
@[simp] theorem zbzc (vs:List V) (k:List V→M V):zbk (.nxt vs) k=k vs:=rfl
@[simp] theorem zbzd (vs:List V) (k:List V→M V):zbk (.ret vs) k=k vs:=rfl
@[simp] theorem zb1s (v:V) (vs:List V):zd (v :: vs) 0=v:=rfl
@[simp] theorem zb1t (v:V) (vs:List V) (i:Nat):zd (v :: vs) (i + 1)=zd vs i:=by simp[zd]
@[simp] theorem zbze (v:V):zbi [v]=v:=rfl
theorem zd6 {body:List V→M Out} {vs:List V} {Q:Out→Heap→Prop} (Inv:Nat→List V→Heap→Prop) {n:Nat} (hn:n < zbm) (h0:Inv n vs H)
  (hstep:∀ k vs H,Inv k vs H→wp (body vs) (fun o H'=>match o with | .nxt vs'=>∃ k',k' < k∧Inv k' vs' H' | o=>Q o H') H):wp (zba zbm body vs) Q H:=by
 have key:∀ m k vs H,k < m→Inv k vs H→wp (zba m body vs) Q H:=by
  intro m
  induction m with
  | zero=>intro k vs H h;omega
  | succ m ih =>
   intro k vs H hk hi
   simp only[zba,z7]
   refine zbci (hstep k vs H hi) fun o H' ho=>?_
   cases o with
   | nxt vs'=>obtain⟨k',h1,h2⟩:=ho;exact ih k' vs' H' (by omega) h2
   | brk i vs'=>simpa using ho
   | ret vs'=>simpa using ho
 exact key zbm n vs H hn h0
abbrev U (x:BitVec 32):V := .int .u32 x.toNat
abbrev W (x:BitVec 64):V := .int .u64 x.toNat
abbrev B (x:BitVec 8):V := .int .u8 x.toNat
abbrev str (s:ByteArray):V := .string s
theorem zbmj (n:Int):IntKind.u32.wrap n=((BitVec.ofInt 32 n).toNat:Int):=by rw[IntKind.wrap_u32];simp[BitVec.toNat_ofInt];omega
theorem zb4c (n:Int):IntKind.u64.wrap n=((BitVec.ofInt 64 n).toNat:Int):=by rw[IntKind.wrap_u64];simp[BitVec.toNat_ofInt];omega
theorem zbzf (n:Int):IntKind.u8.wrap n=((BitVec.ofInt 8 n).toNat:Int):=by rw[IntKind.wrap_u8];simp[BitVec.toNat_ofInt];omega
theorem zic (n:Nat) (m:Nat):BitVec.ofInt n (m:Int)=BitVec.ofNat n m:=BitVec.ofInt_natCast n m
theorem zb1u (a n m:Nat) (h:a < 2 ^ m):(a:Int).fdiv (2 ^ (min n m))=((a >>> n:Nat):Int):=by
 rw[Int.fdiv_eq_ediv_of_nonneg _ (Int.le_of_lt (Int.pow_pos (by omega))),Nat.shiftRight_eq_div_pow]
 by_cases hn:n≤m
 ·rw[Nat.min_eq_left hn];norm_cast
 ·rw[Nat.min_eq_right (by omega)]
  have h1:a < 2 ^ n:=Nat.lt_trans h (Nat.pow_lt_pow_right (by omega) (by omega))
  rw[Nat.div_eq_of_lt h1]
  have:((a:Int) / 2 ^ m)=((a / 2 ^ m:Nat):Int):=by norm_cast
  rw[this,Nat.div_eq_of_lt h]
@[simp] theorem zb73 (x y:BitVec 32):zu .add (U x) (U y)=some (U (x + y)):=by
 simp[zu,z07,zbmj,← Int.natCast_add,zic]
@[simp] theorem zb74 (x y:BitVec 32):zu .and (U x) (U y)=some (U (x &&& y)):=by
 simp[zu,z07,zbbw,zbmj,zic,IntKind.bits];rfl
@[simp] theorem zb8j (x y:BitVec 32):zu .or (U x) (U y)=some (U (x ||| y)):=by
 simp[zu,z07,zbbw,zbmj,zic,IntKind.bits];rfl
@[simp] theorem zb75 (x y:BitVec 32):zu .xor (U x) (U y)=some (U (x ^^^ y)):=by
 simp[zu,z07,zbbw,zbmj,zic,IntKind.bits];rfl
@[simp] theorem zb76 (x:BitVec 32):un .xor (U x)=some (U (~~~ x)):=by
 have h1:BitVec.ofInt 32 4294967295 ^^^ x = ~~~x:=by rw[show (BitVec.ofInt 32 4294967295)=BitVec.allOnes 32 from rfl,BitVec.allOnes_xor]
 have h2:un .xor (U x)=some (.int .u32 (IntKind.u32.wrap ((BitVec.ofInt 32 4294967295 ^^^ BitVec.ofInt 32 x.toNat).toNat:Int))):=rfl
 rw[h2,zic,BitVec.ofNat_toNat,BitVec.setWidth_eq,h1,zbmj,zic,BitVec.ofNat_toNat,BitVec.setWidth_eq]
@[simp] theorem zb8k (x:BitVec 32):cvi .u8 (U x)=some (B (x.setWidth 8)):=by
 simp[cvi,zbzf,zic]
@[simp] theorem zb8l (x:BitVec 8):cvi .u32 (B x)=some (U (x.setWidth 32)):=by
 simp[cvi,zbmj,zic]
@[simp] theorem zb77 (x y:BitVec 64):zu .mul (W x) (W y)=some (W (x * y)):=by
 simp[zu,z07,zb4c,← Int.natCast_mul,zic]
@[simp] theorem zb8m (x:BitVec 64):cvi .u8 (W x)=some (B (x.setWidth 8)):=by
 simp[cvi,zbzf,zic]
@[simp] theorem zb78 (x:Nat):cvi .u64 (i64 x)=some (W (BitVec.ofNat 64 x)):=by
 simp[cvi,zb4c,zic]
@[simp] theorem zb8n (x:BitVec 8):cvi .i64 (B x)=some (i64 x.toNat):=by
 have:=x.isLt
 simp only[cvi];rw[IntWalk.i64_in _ ⟨by omega,by omega⟩]
theorem i64_in {n:Int} (h0:-9223372036854775808≤n) (h1:n≤9223372036854775807):IntKind.i64.wrap n=n:=IntWalk.i64_in n ⟨h0,h1⟩
@[simp] theorem zbve (x y:Int):zu .add (i64 x) (i64 y)=some (i64 (IntKind.i64.wrap (x + y))):=rfl
@[simp] theorem zb1v (x y:Int):zu .sub (i64 x) (i64 y)=some (i64 (IntKind.i64.wrap (x - y))):=rfl
@[simp] theorem zb1w (x y:Int):zu .mul (i64 x) (i64 y)=some (i64 (IntKind.i64.wrap (x * y))):=rfl
@[simp] theorem zb79 (k:IntKind) (x y:Int):zu .eql (.int k x) (.int k y)=some (.bool (x == y)):=by simp[zu,z07]
@[simp] theorem zb8a (k:IntKind) (x y:Int):zu .neq (.int k x) (.int k y)=some (.bool (x != y)):=by simp[zu,z07]
@[simp] theorem zb1x (k:IntKind) (x y:Int):zu .lss (.int k x) (.int k y)=some (.bool (decide (x < y))):=by simp[zu,z07]
@[simp] theorem zb1y (k:IntKind) (x y:Int):zu .leq (.int k x) (.int k y)=some (.bool (decide (x≤y))):=by simp[zu,z07]
@[simp] theorem zb1z (k:IntKind) (x y:Int):zu .gtr (.int k x) (.int k y)=some (.bool (decide (x > y))):=by simp[zu,z07]
@[simp] theorem zb10 (k:IntKind) (x y:Int):zu .geq (.int k x) (.int k y)=some (.bool (decide (x≥y))):=by simp[zu,z07]
@[simp] theorem zb8b (x y:ByteArray):zu .eql (.string x) (.string y)=some (.bool (decide (x=y))):=rfl
@[simp] theorem zb8c (x y:ByteArray):zu .neq (.string x) (.string y)=some (.bool (!decide (x=y))):=rfl
theorem zb11 {x y:ByteArray} (h:x.size + y.size≤4611686018427387904):zu .add (.string x) (.string y)=some (.string (x ++ y)):=by simp[zu,sbin,h]
@[simp] theorem zb6t (b:Bool) (x y:V):z8 (.bool b) x y=some (if b then x else y):=by cases b <;> rfl
@[simp] theorem zb69 (b:Bool):un .not (.bool b)=some (.bool (!b)):=rfl
namespace Heap
@[simp] theorem get_push_self (H:Heap) (x:Option Blk):(H.push x).get H.next=x:=by
 rw[Heap.get_push];simp
theorem get_push_lt {H:Heap} {x:Option Blk} {b:Nat} (h:b < H.next):(H.push x).get b=H.get b:=by
 rw[Heap.get_push,if_neg (by omega)]
@[simp] theorem next_push' (H:Heap) (x:Option Blk):(H.push x).next=H.next + 1:=Heap.next_push H x
@[simp] theorem next_set' (H:Heap) (b:Nat) (x:Option Blk):(H.set b x).next=H.next:=Heap.next_set H b x
theorem get_set_self {H:Heap} {b:Nat} {x:Option Blk} (h:b < H.next):(H.set b x).get b=x:=by
 rw[Heap.get_set H b x _ h];simp
theorem z0b (H:Heap) (b:Nat) (x:Option Blk) (c:Nat):(H.set b x).get c=if c=b∧b < H.next then x else H.get c:=BT.get_set b x c H.ok
@[simp] theorem set_set (H:Heap) (b:Nat) (x y:Option Blk):(H.set b x).set b y=H.set b y:=by
 refine Heap.same rfl fun c _=>?_
 rw[z0b,z0b,z0b,show (H.set b x).next=H.next from rfl]
 by_cases h:c=b∧b < H.next
 ·rw[if_pos h,if_pos h]
 ·rw[if_neg h,if_neg h,if_neg h]
end Heap
def zsg (H:Heap) (p:V):Option V:=match p with | .pointer (some ⟨b,o,none⟩)=>H.cell b o | _=>none
@[simp] theorem zb49 (p:V) {Q:V→Heap→Prop}:wp (zz p) Q H↔wpO (zsg H p) fun v=>Q v H:=by
 unfold wp wpO zz zsg
 constructor
 ·rintro⟨a,H',h1,h2⟩
  split at h1
  ·split at h1
   ·rename_i v hc;cases h1;exact⟨_,hc,h2⟩
   ·cases h1
  ·cases h1
 ·rintro⟨a,h1,h2⟩
  split at h1
  ·exact⟨a,H,by simp[h1],h2⟩
  ·cases h1
theorem z7z {b o:Nat} {rw:Bool} {cs:List V} (h:H.get b=some (.cells rw cs)):zsg H (ptr b o)=cs[o]? := by simp[zsg,Heap.cell,h]
theorem zbap {b o u len cap size:Nat} {k:IntKind} {i:Int} (h0:0≤i) (h1:i < len):zr size (slc b o u len cap) (.int k i)=some (ptr b (o + i.toNat * size)):=by simp[zr,h0,h1]
theorem zbia {b o n size:Nat} {k:IntKind} {i:Int} (h0:0≤i) (h1:i < n):zn5 n size (ptr b o) (.int k i)=some (ptr b (o + i.toNat * size)):=by simp[zn5,h0,h1]
@[simp] theorem zbw5 (b o off:Nat):zf off (ptr b o)=some (ptr b (o + off)):=rfl
@[simp] theorem zbw6 (b o:Nat):zb2 (ptr b o)=some (ptr b o):=rfl
@[simp] theorem zbev (k:IntKind) (n:Int):(Value.int k n).isOne=true:=rfl
@[simp] theorem zbew (s:ByteArray):(Value.string s).isOne=true:=rfl
@[simp] theorem zbaq (b:Bool):(Value.bool b).isOne=true:=rfl
@[simp] theorem z4k (a:Option Addr) (n c:Nat):(Value.slice a n c).isOne=true:=rfl
@[simp] theorem zy1 (a:Option Addr):(Value.pointer a).isOne=true:=rfl
@[simp] theorem zbex (a:Option Nat):(Value.map a).isOne=true:=rfl
theorem zbzg {b o:Nat} {cs:List V} {v:V} (h:H.get b=some (.cells true cs)) (hv:v.isOne=true) (ho:o < cs.length) {Q:V→Heap→Prop} :
  wp (st1 (ptr b o) v) Q H↔Q undef (H.set b (some (.cells true (cs.set o v)))):=by
 constructor
 ·rintro⟨a,H',h1,h2⟩
  simp[st1,h,hv,ho] at h1
  obtain⟨rfl,rfl⟩:=h1;exact h2
 ·intro hq;exact⟨_,_,by simp[st1,h,hv,ho],hq⟩
theorem zbts {b o n:Nat} {rw:Bool} {cs:List V} (h:H.get b=some (.cells rw cs)) (ho:o + n≤cs.length) {Q:V→Heap→Prop} :
  wp (ldn n (ptr b o)) Q H↔Q (.agg ((cs.drop o).take n).toArray) H:=by
 constructor
 ·rintro⟨a,H',h1,h2⟩
  simp[ldn,cellsAt,h,ho] at h1
  obtain⟨rfl,rfl⟩:=h1;exact h2
 ·intro hq;exact⟨_,_,by simp[ldn,cellsAt,h,ho],hq⟩
theorem zbck {cs:List V} (h:cs.all zge=true) {Q:V→Heap→Prop}:wp (newc cs) Q H↔Q (ptr H.next 0) (H.push (some (.cells true cs))):=by
 constructor
 ·rintro⟨a,H',h1,h2⟩
  simp only[newc,h,if_true] at h1
  cases h1;exact h2
 ·intro hq;exact⟨_,_,by simp only[newc,h,if_true],hq⟩
@[simp] theorem zbqh {Q:V→Heap→Prop}:wp zvw Q H↔Q (.map (some H.next)) (H.push (some (.map true []))) :=
 ⟨fun ⟨_,_,h1,h2⟩=>by cases h1;exact h2,fun h=>⟨_,_,rfl,h⟩⟩
@[simp] theorem zbnp (a:Option Addr) (n c:Nat):zw (.slice a n c)=some (i64 n):=rfl
@[simp] theorem zbtt (s:ByteArray):zd9 (.string s)=some (i64 s.size):=rfl
@[simp] theorem zbzh (s:ByteArray):strV (.string s)=some (.string s):=rfl
theorem zdf {size len:Nat} {zero cs:List V} {parts:List (Nat × Nat × V)} (h:zero.all zge=true) (hc:zbu zero parts=some cs) {Q:V→Heap→Prop} :
  wp (zcc size len zero parts) Q H↔Q (slc H.next 0 size len len) (H.push (some (.cells true cs))):=by
 constructor
 ·rintro⟨a,H',h1,h2⟩
  simp only[zcc,h,if_true,hc] at h1
  cases h1;exact h2
 ·intro hq;exact⟨_,_,by simp only[zcc,h,if_true,hc],hq⟩
def zie (o:Option V) (v:V):Bool:=match o with | some v'=>vEq v' v | none=>false
@[congr] theorem zb5a {o o':Option V} {v:V} (h:o=o'):zie o v=zie o' v:=by rw[h]
theorem zb5b (p:V) (H:Heap):zz p H=match zsg H p with | some v=>some (v,H) | none=>none:=by
 cases p <;> try rfl
 rename_i a
 cases a with
 | none=>rfl
 | some a=>obtain⟨b,o,s⟩:=a;cases s <;> rfl
theorem zb12 (p:V) (H:Heap) (v:V):chk (zz p) H v=zie (zsg H p) v:=by
 unfold chk zie
 rw[zb5b]
 cases zsg H p <;> rfl
@[simp] theorem zbib (k:IntKind) (n:Int):zie (some (.int k n)) (.int k n)=true:=by simp[zie,vEq]
@[simp] theorem zbey (b:Bool):zie (some (.bool b)) (.bool b)=true:=by simp[zie,vEq]
@[simp] theorem zbic (s:ByteArray):zie (some (.string s)) (.string s)=true:=by simp[zie,vEq]
@[simp] theorem zbid (a:Option Addr):zie (some (.pointer a)) (.pointer a)=true:=by simp[zie,vEq]
@[simp] theorem zbie (a:Option Addr) (n c:Nat):zie (some (.slice a n c)) (.slice a n c)=true:=by simp[zie,vEq]
@[simp] theorem zbif (a:Option Nat):zie (some (.map a)) (.map a)=true:=by simp[zie,vEq]
@[simp] theorem zb8d (v:V) (H:Heap):chk (ret v) H v=vEq v v:=rfl
end Go.AM
