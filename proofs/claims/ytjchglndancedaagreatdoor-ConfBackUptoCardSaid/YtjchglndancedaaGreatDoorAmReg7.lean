import Derived.Test.YtjchglndancedaaGreatDoorAmReg4
set_option linter.all false
/- Regions whose order is drawn: whatever order is drawn, what the run in one order says holds. -/
namespace Go.AM
open Go.RowKit (Below)
variable {P:Program} {N:Nat} {w₀:World} {ρ:Ren} {H:Heap} {w:World} {σ:zu} {n:Nat} {ops:Array Oper} {fl:List Nat} {base:Nat}
theorem zbga:∀ (l:List Nat) {a b j:Nat},zwe l a=some j→zwe l b=some j→a=b
 | [],a,b,j,h,_=>by simp[zwe] at h
 | x :: xs,a,b,j,h,g=>by
  simp only[zwe] at h g
  cases ha:Nat.beq x a with
  | true =>
   cases hb:Nat.beq x b with
   | true=>rw[← Nat.eq_of_beq_eq_true ha,← Nat.eq_of_beq_eq_true hb]
   | false =>
    rw[ha] at h;rw[hb] at g
    simp only[cond_true,cond_false] at h g
    cases h
    split at g <;> cases g
  | false =>
   rw[ha] at h
   simp only[cond_false] at h
   split at h
   ·rename_i j' hj';cases h
    cases hb:Nat.beq x b with
    | true=>rw[hb] at g;simp at g
    | false =>
     rw[hb] at g
     simp only[cond_false] at g
     split at g
     ·rename_i j2 hj2;cases g;exact zbga xs hj' hj2
     ·cases g
   ·cases h
theorem z7s {i j:Nat} (hj:zwe fl i=some j):∀ (l:List Nat),i∈l→base + j∈kept fl base l
 | [],h=>by simp at h
 | x :: xs,h=>by
  simp only[kept]
  rcases List.mem_cons.1 h with rfl | h
  ·rw[hj];simp
  ·have:=z7s hj xs h
   split <;> simp[this]
theorem zrq {H:Heap} {b:Nat}:∀ (l:List Nat),zgn H l=true→b∈l→H.get b=none∧b < H.next
 | [],_,h=>by simp at h
 | x :: xs,hf,h=>by
  simp only[zgn,Bool.and_eq_true] at hf
  rcases List.mem_cons.1 h with rfl | h
  ·have:=hf.1
   split at this
   ·rename_i hn;exact⟨hn,Nat.blt_eq.mp this⟩
   ·cases this
  ·exact zrq xs hf.2 h
theorem z1h {P:Program} {i:Nat} {o:Oper} {j:Nat} (h:zdx P fl i o = .float j):zwe fl i=some j:=by
 unfold zdx at h;split at h
 ·cases h;assumption
 ·split at h <;> cases h
theorem zbrf {P:Program} {i:Nat} {o:Oper} (h:zdx P fl i o = .quiet):cls P o.op = .mv∨cls P o.op = .pure:=by
 unfold zdx at h;split at h
 ·cases h
 ·split at h <;> first | (left;assumption) | (right;assumption) | cases h
theorem zbny {P:Program} {i:Nat} {o:Oper} (h:zdx P fl i o = .read):cls P o.op = .read:=by
 unfold zdx at h;split at h
 ·cases h
 ·split at h <;> first | assumption | cases h
theorem zbjq {perm:List Nat} {e ef:Env} {Hs Hf:Heap} {tr:List Tr} (h:Run P σ n ops fl base perm e Hs tr ef Hf):∀ (V0:Heap) (D0:List Tr),Hs=zbo (fun _=>true) base D0 V0 →
  (∀ X s Y,tr=X ++ s :: Y→s.H=zbo (fun _=>true) base (if cnt X=0 then D0 ++ X else after (cnt X) X) (zbn (cnt X) V0 tr)) ∧
  Hf=zbo (fun _=>true) base (if cnt tr=0 then D0 ++ tr else after (cnt tr) tr) (zbn (cnt tr) V0 tr):=by
 induction h with
 | nil=>intro V0 D0 hH;exact⟨fun X s Y he=>by cases X <;> simp at he,by simpa[cnt,zbn] using hH⟩
 | @cons i rest e H o v H' tr ef Hf h1 h2 h3 h4 ih =>
  intro V0 D0 hH
  have plain:(zdx P fl i o).isChain=false→H'=zbo (fun _=>true) base (D0 ++ [⟨i,o,zdx P fl i o,e,H,v,H'⟩]) V0 →
    (∀ X s Y,(⟨i,o,zdx P fl i o,e,H,v,H'⟩:Tr) :: tr=X ++ s :: Y→s.H=zbo (fun _=>true) base (if cnt X=0 then D0 ++ X else after (cnt X) X) (zbn (cnt X) V0 (⟨i,o,zdx P fl i o,e,H,v,H'⟩ :: tr))) ∧
    Hf=zbo (fun _=>true) base (if cnt ((⟨i,o,zdx P fl i o,e,H,v,H'⟩:Tr) :: tr)=0 then D0 ++ (⟨i,o,zdx P fl i o,e,H,v,H'⟩ :: tr) else after (cnt ((⟨i,o,zdx P fl i o,e,H,v,H'⟩:Tr) :: tr)) (⟨i,o,zdx P fl i o,e,H,v,H'⟩ :: tr)) (zbn (cnt ((⟨i,o,zdx P fl i o,e,H,v,H'⟩:Tr) :: tr)) V0 (⟨i,o,zdx P fl i o,e,H,v,H'⟩ :: tr)):=by
   intro hc hH'
   obtain⟨g1,g2⟩:=ih V0 (D0 ++ [⟨i,o,zdx P fl i o,e,H,v,H'⟩]) hH'
   have hver:∀ k,zbn k V0 ((⟨i,o,zdx P fl i o,e,H,v,H'⟩:Tr) :: tr)=zbn k V0 tr:=by
    intro k;cases k with
    | zero=>simp[zbn]
    | succ k=>simp[zbn,hc]
   have haft:∀ k X,k≠0→after k ((⟨i,o,zdx P fl i o,e,H,v,H'⟩:Tr) :: X)=after k X:=by
    intro k X hk;cases k with
    | zero=>exact absurd rfl hk
    | succ k=>simp[after,hc]
   have hcnt:∀ X,cnt ((⟨i,o,zdx P fl i o,e,H,v,H'⟩:Tr) :: X)=cnt X:=by intro X;simp[cnt,hc]
   refine⟨fun X s Y he=>?_,?_⟩
   ·cases X with
    | nil =>
     simp only[List.nil_append,List.cons.injEq] at he
     obtain⟨rfl,rfl⟩:=he
     simpa[cnt,zbn] using hH
    | cons x X =>
     simp only[List.cons_append,List.cons.injEq] at he
     obtain⟨rfl,rfl⟩:=he
     rw[g1 X s Y rfl,hcnt,hver]
     by_cases hz:cnt X=0
     ·rw[if_pos hz,if_pos hz];simp
     ·rw[if_neg hz,if_neg hz,haft _ _ hz]
   ·rw[g2,hcnt,hver]
    by_cases hz:cnt tr=0
    ·rw[if_pos hz,if_pos hz];simp
    ·rw[if_neg hz,if_neg hz,haft _ _ hz]
  have setLast:∀ s:Tr,zbo (fun _=>true) base (D0 ++ [s]) V0=(match s.kd with | .float j=>H.set (base + j) (s.H'.get (base + j)) | _=>H):=by
   intro s
   rw[zl3,← hH]
   unfold zbo
   cases s.kd <;> rfl
  cases hk:zdx P fl i o with
  | quiet =>
   rw[hk] at h2 plain
   obtain⟨rfl,_⟩:=z9o (zbrf hk) h2
   exact plain rfl (by rw[setLast])
  | read =>
   rw[hk] at h2 plain
   have:=zbjm (zbny hk) h2;subst this
   exact plain rfl (by rw[setLast])
  | float j =>
   rw[hk] at h2 plain
   obtain⟨_,_,x,v0,_,_,q1,q2,rfl⟩:=h2
   refine plain rfl ?_
   rw[setLast]
   simp only[Heap.get_set _ _ _ _ q2,if_true]
  | chain =>
   obtain⟨g1,g2⟩:=ih H' [] rfl
   refine⟨fun X s Y he=>?_,?_⟩
   ·cases X with
    | nil =>
     simp only[List.nil_append,List.cons.injEq] at he
     obtain⟨rfl,rfl⟩:=he
     simpa[cnt,zbn] using hH
    | cons x X =>
     simp only[List.cons_append,List.cons.injEq] at he
     obtain⟨rfl,rfl⟩:=he
     rw[g1 X s Y rfl]
     simp only[cnt,KD.isChain,if_true,List.nil_append]
     have e1:¬ (1 + cnt X=0):=by omega
     rw[if_neg e1,show 1 + cnt X=cnt X + 1 by omega]
     simp only[zbn,after,KD.isChain,if_true]
     by_cases hz:cnt X=0
     ·rw[if_pos hz,hz];simp[after]
     ·rw[if_neg hz]
   ·rw[g2]
    simp only[cnt,KD.isChain,if_true,List.nil_append]
    have e1:¬ (1 + cnt tr=0):=by omega
    rw[if_neg e1,show 1 + cnt tr=cnt tr + 1 by omega]
    simp only[zbn,after,KD.isChain,if_true]
    by_cases hz:cnt tr=0
    ·rw[if_pos hz,hz];simp[after]
    ·rw[if_neg hz]
theorem zbpa {perm:List Nat} {e ef:Env} {Hs Hf:Heap} {tr:List Tr} (h:Run P σ n ops fl base perm e Hs tr ef Hf):∀ (V:Heap) (X:List Tr) (s:Tr) (Y:List Tr) (j k:Nat),tr=X ++ s :: Y→s.kd = .float j→k + 1≤cnt X →
  (zbn (k + 1) V tr).get (base + j)=none∧base + j < (zbn (k + 1) V tr).next:=by
 induction h with
 | nil=>intro V X s Y j k he;cases X <;> simp at he
 | @cons i rest e H o v H' tr ef Hf h1 h2 h3 h4 ih =>
  intro V X s Y j k he hs hk
  cases X with
  | nil=>simp[cnt] at hk
  | cons x X =>
   simp only[List.cons_append,List.cons.injEq] at he
   obtain⟨rfl,rfl⟩:=he
   simp only[cnt] at hk
   cases hc:(zdx P fl i o).isChain with
   | true =>
    simp only[hc,if_true] at hk
    simp only[zbn,hc,if_true]
    cases k with
    | zero =>
     simp only[zbn]
     have hkd:zdx P fl i o = .chain:=by cases hq:zdx P fl i o <;> rw[hq] at hc <;> first | rfl | cases hc
     rw[hkd] at h3
     simp only[zue,Bool.and_eq_true] at h3
     have hmem:s.i∈rest:=by rw[← h4.map_i];simp
     have hidx:zwe fl s.i=some j:=by
      obtain⟨_,_,_,q,_⟩:=h4.split rfl
      rw[hs] at q;exact z1h q.symm
     exact zrq _ h3.2 (z7s hidx rest hmem)
    | succ k=>exact ih H' X s Y j k rfl hs (by omega)
   | false =>
    simp only[hc,Bool.false_eq_true,if_false,Nat.zero_add] at hk
    simp only[zbn,hc,Bool.false_eq_true,if_false]
    exact ih V X s Y j k rfl hs hk
theorem zbrg {perm:List Nat} {e ef:Env} {Hs Hf:Heap} {tr:List Tr} (h:Run P σ n ops fl base perm e Hs tr ef Hf) (hf:zgn Hs (kept fl base perm)=true) {X:List Tr} {s:Tr} {Y:List Tr} {j k:Nat} (he:tr=X ++ s :: Y) (hs:s.kd = .float j) (hk:k≤cnt X) :
  (zbn k Hs tr).get (base + j)=none∧base + j < (zbn k Hs tr).next:=by
 cases k with
 | zero =>
  simp only[zbn]
  have hmem:s.i∈perm:=by rw[← h.map_i,he];simp
  obtain⟨_,_,_,q,_⟩:=h.split he
  rw[hs] at q
  exact zrq _ hf (z7s (z1h q.symm) perm hmem)
 | succ k=>exact zbpa h Hs X s Y j k he hs hk
theorem z1i:∀ (X:List Tr) (k:Nat),k < cnt X→∃ X1 p X2,X=X1 ++ p :: X2∧p.kd.isChain=true∧cnt X1=k
 | [],k,h=>by simp[cnt] at h
 | x :: X,k,h=>by
  simp only[cnt] at h
  cases hc:x.kd.isChain with
  | true =>
   cases k with
   | zero=>exact⟨[],x,X,rfl,hc,rfl⟩
   | succ k =>
    simp only[hc,if_true] at h
    obtain⟨X1,p,X2,h1,h2,h3⟩:=z1i X k (by omega)
    exact⟨x :: X1,p,X2,by simp[h1],h2,by simp[cnt,hc,h3];omega⟩
  | false =>
   simp only[hc,Bool.false_eq_true,if_false,Nat.zero_add] at h
   obtain⟨X1,p,X2,h1,h2,h3⟩:=z1i X k h
   exact⟨x :: X1,p,X2,by simp[h1],h2,by simp[cnt,hc,h3]⟩
theorem zwi:∀ (tr:List Tr) (j c:Nat),(zwf tr)[j]? = some c→∃ X s Y,tr=X ++ s :: Y∧s.kd.isChain=true∧cnt X=j∧s.i=c
 | [],j,c,h=>by simp[zwf] at h
 | x :: tr,j,c,h=>by
  simp only[zwf] at h
  cases hc:x.kd.isChain with
  | true =>
   rw[hc] at h
   simp only[cond_true] at h
   cases j with
   | zero=>simp at h;exact⟨[],x,tr,rfl,hc,rfl,h⟩
   | succ j =>
    obtain⟨X,s,Y,h1,h2,h3,h4⟩:=zwi tr j c (by simpa using h)
    exact⟨x :: X,s,Y,by simp[h1],h2,by simp[cnt,hc,h3];omega,h4⟩
  | false =>
   rw[hc] at h
   obtain⟨X,s,Y,h1,h2,h3,h4⟩:=zwi tr j c h
   exact⟨x :: X,s,Y,by simp[h1],h2,by simp[cnt,hc,h3],h4⟩
theorem z7t:∀ (X:List Tr) (k:Nat) (Z:List Tr),k≤cnt X→after k (X ++ Z)=after k X ++ Z
 | X,0,Z,_=>by simp[after]
 | [],k + 1,Z,h=>by simp[cnt] at h
 | x :: X,k + 1,Z,h=>by
  simp only[cnt] at h
  cases hc:x.kd.isChain with
  | true=>simp only[hc,if_true] at h;simp only[List.cons_append,after,hc,if_true];exact z7t X k Z (by omega)
  | false=>simp only[hc,Bool.false_eq_true,if_false,Nat.zero_add] at h;simp only[List.cons_append,after,hc,Bool.false_eq_true,if_false];exact z7t X (k + 1) Z h
theorem zjf:∀ (k:Nat) (tr:List Tr),k≤cnt tr→∃ X,tr=X ++ after k tr∧k≤cnt X
 | 0,tr,_=>⟨[],by simp[after],by simp⟩
 | k + 1,[],h=>by simp[cnt] at h
 | k + 1,x :: tr,h=>by
  simp only[cnt] at h
  cases hc:x.kd.isChain with
  | true =>
   simp only[hc,if_true] at h
   obtain⟨X,h1,h2⟩:=zjf k tr (by omega)
   refine⟨x :: X,?_,by simp[cnt,hc];omega⟩
   simp only[after,hc,if_true,List.cons_append];rw[← h1]
  | false =>
   simp only[hc,Bool.false_eq_true,if_false,Nat.zero_add] at h
   obtain⟨X,h1,h2⟩:=zjf (k + 1) tr h
   refine⟨x :: X,?_,by simp[cnt,hc];omega⟩
   simp only[after,hc,Bool.false_eq_true,if_false,List.cons_append];rw[← h1]
end Go.AM

/- Regions whose order is drawn: the theorem. -/
namespace Go.AM
open Go.RowKit (Below)
variable {P:Program} {N:Nat} {w₀:World} {ρ:Ren} {H:Heap} {w:World} {σ:zu} {n:Nat} {ops:Array Oper} {fl:List Nat} {base:Nat}
structure Stat (P:Program) (σ:zu) (n:Nat) (ops:Array Oper) (fl:List Nat) (base N:Nat) (perm:List Nat) (e0:Env) (Hs:Heap) (tr:List Tr) (ef:Env) (Hf:Heap):Prop where
 hσ:zd3 P σ
 hG:P.globals.size≤N
 run:Run P σ n ops fl base perm e0 Hs tr ef Hf
 ord:z7d P ops (Region.before ops) fl [] perm=true
 all:∀ i,i < ops.size→i∈perm
 rd:z07 P ops fl true perm=true
 chk:∀ X s Y,tr=X ++ s :: Y→s.kd.isRead=true→∀ k HH,(Hs :: z3n tr)[k]? = some HH→k≠cnt X→zy7 (Region.before ops) (zwf tr) s.i k=true→AM.chk (gdM P σ ops s.o s.env) HH s.v=true
 free:zgn Hs (kept fl base perm)=true
abbrev mm (L:Array Bool):Nat→Bool:=fun i=>L.getD i false
def Down (ops:Array Oper) (M:Nat→Bool):Prop:=∀ i,M i=true→∃ o,ops[i]? = some o∧∀ e∈o.after.toList,Region.binds .any e=true→M e.on=true
structure Inv (n:Nat) (ops:Array Oper) (base N:Nat) (w₀:World) (e0:Env) (Hs:Heap) (tr:List Tr) (ρS:Ren) (HS:Heap) (wS:World) (aS:Act) (L:Array Bool) (a:Act) (w:World) (ρ:Ren) (k:Nat):Prop where
 size:L.size=ops.size
 down:Down ops (mm L)
 kle:k≤cnt tr
 chain:∀ X s Y,tr=X ++ s :: Y→s.kd.isChain=true→(mm L s.i=true↔cnt X < k)
 rel:Rel N w₀ ρ (zbo (mm L) base (after k tr) (zbn k Hs tr)) w
 env:EnvRel n ρ (zez n (mm L) tr e0) a
 ext:Ext ρS HS wS ρ (zbo (mm L) base (after k tr) (zbn k Hs tr)) w
 free:∀ X s Y j,tr=X ++ s :: Y→s.kd = .float j→mm L s.i=false→ρ (base + j)=none
 defers:a.defers=aS.defers
theorem zbxv (L:Array Bool) (i j:Nat) (hi:i < L.size):mm (L.setIfInBounds i true) j=(if j=i then true else mm L j):=by
 unfold mm
 rw[Array.getD_eq_getD_getElem?,Array.getElem?_setIfInBounds,Array.getD_eq_getD_getElem?]
 by_cases h:i=j
 ·subst h;simp[hi]
 ·rw[if_neg h,if_neg (fun e=>h e.symm)]
theorem z56 {L:Array Bool} {i:Nat} (hsz:L.size=ops.size) (h:i∈Region.ready .any ops L):i < ops.size∧mm L i=false∧∃ o,ops[i]? = some o∧∀ e∈o.after.toList,Region.binds .any e=true→mm L e.on=true:=by
 simp only[Region.ready,List.mem_filter,List.mem_range,Bool.and_eq_true,Bool.not_eq_true'] at h
 obtain⟨h1,h2,h3⟩:=h
 have hL:i < L.size:=by omega
 refine⟨h1,by simpa[mm,hL] using h2,ops[i],by simp[h1],fun e he hb=>?_⟩
 simp only[Array.getElem?_eq_getElem h1,Option.map_some,Option.getD_some,Array.all_eq_true_iff_forall_mem,Bool.or_eq_true,Bool.not_eq_true'] at h3
 rcases h3 e (by simpa using he) with q | q
 ·rw[hb] at q;cases q
 ·exact q
theorem zbrh {L:Array Bool} {i:Nat} (hsz:L.size=ops.size) {o:Oper} (ho:ops[i]? = some o) (hu:mm L i=false) (he:∀ e∈o.after.toList,Region.binds .any e=true→mm L e.on=true):i∈Region.ready .any ops L:=by
 have h1:i < ops.size:=by
  rcases Nat.lt_or_ge i ops.size with q | q
  ·exact q
  ·simp[Array.getElem?_eq_none q] at ho
 have hL:i < L.size:=by omega
 simp only[Region.ready,List.mem_filter,List.mem_range,Bool.and_eq_true,Bool.not_eq_true']
 refine⟨h1,by simpa[mm,hL] using hu,?_⟩
 simp only[ho,Option.map_some,Option.getD_some,Array.all_eq_true_iff_forall_mem,Bool.or_eq_true,Bool.not_eq_true']
 intro e hm
 cases hb:Region.binds .any e with
 | false=>exact .inl rfl
 | true=>exact .inr (he e (by simpa using hm) hb)
section
variable {perm:List Nat} {e0:Env} {Hs:Heap} {tr:List Tr} {ef:Env} {Hf:Heap}
theorem Stat.at (S:Stat P σ n ops fl base N perm e0 Hs tr ef Hf) {i:Nat} (hi:i < ops.size):∃ X s Y,tr=X ++ s :: Y∧s.i=i:=by
 have h1:=S.all i hi
 rw[← S.run.map_i] at h1
 obtain⟨s,hs,rfl⟩:=List.mem_map.1 h1
 obtain⟨X,Y,h2⟩:=List.append_of_mem hs
 exact⟨X,s,Y,h2,rfl⟩
theorem Stat.perm_eq (S:Stat P σ n ops fl base N perm e0 Hs tr ef Hf) {X:List Tr} {s:Tr} {Y:List Tr} (he:tr=X ++ s :: Y):perm=X.map (·.i) ++ s.i :: Y.map (·.i):=by
 rw[← S.run.map_i,he];simp
theorem Stat.ne (S:Stat P σ n ops fl base N perm e0 Hs tr ef Hf) {X:List Tr} {s:Tr} {Y:List Tr} (he:tr=X ++ s :: Y):(∀ p∈X,p.i≠s.i)∧∀ q∈Y,q.i≠s.i:=by
 constructor
 ·intro p hp e
  obtain⟨o,_,_,g,_⟩:=zo0 perm [] S.ord (X.map (·.i)) s.i (Y.map (·.i)) (S.perm_eq he)
  exact g (by rw[← e];exact List.mem_map.2 ⟨p,hp,rfl⟩)
 ·intro q hq e
  obtain⟨Y1,Y2,rfl⟩:=List.append_of_mem hq
  have he2:tr=(X ++ s :: Y1) ++ q :: Y2:=by rw[he];simp
  obtain⟨o,_,_,g,_⟩:=zo0 perm [] S.ord _ q.i _ (S.perm_eq he2)
  exact g (by rw[e];simp)
theorem Stat.pair (S:Stat P σ n ops fl base N perm e0 Hs tr ef Hf) {X:List Tr} {s:Tr} {Y:List Tr} (he:tr=X ++ s :: Y) {p:Tr} (hp:p∈X) :
  (z7c ops p.o s.o=true→z7b (Region.before ops) s.i p.i=true)∧(p.kd.isChain=true→s.kd.isChain=true→z7b (Region.before ops) s.i p.i=true)∧(p.kd.isFloat=true→s.kd.isChain=true→z7b (Region.before ops) s.i p.i=true):=by
 obtain⟨o,h1,_,_,_,h2,_⟩:=zo0 perm [] S.ord (X.map (·.i)) s.i (Y.map (·.i)) (S.perm_eq he)
 have hpair:=h2 p.i (.inr (List.mem_map.2 ⟨p,hp,rfl⟩))
 obtain⟨_,_,hso,hsk,_⟩:=S.run.split he
 obtain⟨X1,X2,rfl⟩:=List.append_of_mem hp
 have he2:tr=X1 ++ p :: (X2 ++ s :: Y):=by rw[he];simp
 obtain⟨_,_,hpo,hpk,_⟩:=S.run.split he2
 simp only[zblp,hso,hpo,Bool.and_eq_true,Bool.or_eq_true,Bool.not_eq_true'] at hpair
 obtain⟨q1,q2⟩:=hpair
 rw[← hpk,← hsk] at q2
 refine⟨fun hc=>?_,fun h3 h4=>?_,fun h3 h4=>?_⟩
 ·rcases q1 with q1 | q1
  ·rw[hc] at q1;cases q1
  ·exact q1
 ·cases hpk':p.kd <;> rw[hpk'] at h3 q2 <;> first | (cases h3;done) | skip
  cases hsk':s.kd <;> rw[hsk'] at h4 q2 <;> first | (cases h4;done) | exact q2
 ·cases hpk':p.kd <;> rw[hpk'] at h3 q2 <;> first | (cases h3;done) | skip
  cases hsk':s.kd <;> rw[hsk'] at h4 q2 <;> first | (cases h4;done) | exact q2
theorem Stat.sides (S:Stat P σ n ops fl base N perm e0 Hs tr ef Hf) {L:Array Bool} (hd:Down ops (mm L)) {X:List Tr} {s:Tr} {Y:List Tr} (he:tr=X ++ s :: Y) (hu:mm L s.i=false)
  (hready:∃ o,ops[s.i]? = some o∧∀ e∈o.after.toList,Region.binds .any e=true→mm L e.on=true) :
  (∀ p,p∈X→z7b (Region.before ops) s.i p.i=true→mm L p.i=true)∧(∀ q,q∈Y→z7b (Region.before ops) q.i s.i=true→mm L q.i=false):=by
 constructor
 ·intro p hp ha
  have hdown:∀ j,(mm L j=true∨j=s.i)→∃ o,ops[j]? = some o∧∀ e∈o.after.toList,Region.binds .any e=true→(mm L e.on=true∨e.on=s.i):=by
   intro j hj
   rcases hj with hj | rfl
   ·obtain⟨o,h1,h2⟩:=hd j hj;exact⟨o,h1,fun e he hb => .inl (h2 e he hb)⟩
   ·obtain⟨o,h1,h2⟩:=hready;exact⟨o,h1,fun e he hb => .inl (h2 e he hb)⟩
  rcases zth (Mp:=fun j=>mm L j=true∨j=s.i) hdown s.i (.inr rfl) p.i ha with q | q
  ·exact q
  ·exact absurd q ((S.ne he).1 p hp)
 ·intro q hq ha
  cases hm:mm L q.i with
  | false=>rfl
  | true =>
   have:=zth (Mp:=fun j=>mm L j=true) (fun j hj=>hd j hj) q.i hm s.i ha
   rw[hu] at this;cases this
theorem zbpb {x y:Oper} {t:Nat} (h1:x.dst=some t) (h2:t∈zbaj ops y):z7c ops x y=true:=by
 simp[z7c,h1,h2]
theorem zbpc {x y:Oper} {t:Nat} (h1:y.dst=some t) (h2:t∈zbaj ops x):z7c ops x y=true:=by
 simp[z7c,h1,h2]
theorem zbpd {x y:Oper} {t:Nat} (h1:x.dst=some t) (h2:y.dst=some t):z7c ops x y=true:=by
 simp[z7c,h1,h2]
end
end Go.AM

/- Regions whose order is drawn: one operation, whichever is next. -/
namespace Go.AM
open Go.RowKit (Below)
variable {P:Program} {N:Nat} {w₀:World} {ρ:Ren} {H:Heap} {w:World} {σ:zu} {n:Nat} {ops:Array Oper} {fl:List Nat} {base:Nat}
variable {perm:List Nat} {e0:Env} {Hs:Heap} {tr:List Tr} {ef:Env} {Hf:Heap} {ρS:Ren} {HS:Heap} {wS:World} {aS:Act}
theorem zbnz {X1 X2:List Tr} {p:Tr} (hp:p.kd.isChain=true):cnt (X1 ++ p :: X2)=cnt X1 + 1 + cnt X2:=by
 rw[zbcp];simp[cnt,hp];omega
theorem step (S:Stat P σ n ops fl base N perm e0 Hs tr ef Hf) (hbase:HS.next=base) {L:Array Bool} {a:Act} {k:Nat} (I:Inv n ops base N w₀ e0 Hs tr ρS HS wS aS L a w ρ k) {i:Nat} (hi:i∈Region.ready .any ops L)
  {K:Act→World→Prop} {Q:Exit→Act→World→Prop} (hK:∀ a' w' ρ' k',Inv n ops base N w₀ e0 Hs tr ρS HS wS aS (L.setIfInBounds i true) a' w' ρ' k'→K a' w'):wpOp P ops Q i K a w:=by
 obtain⟨hlt,hu,hready⟩:=z56 I.size hi
 obtain⟨X,s,Y,he,rfl⟩:=S.at hlt
 obtain⟨henv,hstep,hops,hkd,hend⟩:=S.run.split he
 obtain⟨hneX,hneY⟩:=S.ne he
 obtain⟨sideX,sideY⟩:=S.sides I.down he hu hready
 have hLs:s.i < L.size:=by rw[I.size];exact hlt
 have hset:=fun j=>zbxv L s.i j hLs
 have pX:=fun p (hp:p∈X)=>S.pair he hp
 have pY:∀ q,q∈Y→(z7c ops s.o q.o=true→mm L q.i=false)∧(s.kd.isChain=true→q.kd.isChain=true→mm L q.i=false)∧(s.kd.isFloat=true→q.kd.isChain=true→mm L q.i=false):=by
  intro q hq
  obtain⟨Y1,Y2,rfl⟩:=List.append_of_mem hq
  have he2:tr=(X ++ s :: Y1) ++ q :: Y2:=by rw[he];simp
  obtain⟨h1,h2,h3⟩:=S.pair he2 (p:=s) (by simp)
  exact⟨fun c=>sideY q hq (h1 c),fun c d=>sideY q hq (h2 c d),fun c d=>sideY q hq (h3 c d)⟩
 have hen:∀ t∈zbaj ops s.o,s.env t=zez n (mm L) tr e0 t:=by
  intro t ht
  rw[henv,he,zzg]
  simp only[zez]
  rw[if_neg (by rw[hu];simp)]
  rw[z7r (mm L) Y _ fun q hq hd=>(pY q hq).1 (zbpc hd ht)]
  exact (z9p (mm L) X e0 e0 (fun p hp hd=>sideX p hp ((pX p hp).1 (zbpb hd ht))) rfl).symm
 have hgdE:gdM P σ ops s.o s.env=gdM P σ ops s.o (zez n (mm L) tr e0):=zbo8 s.o hen
 have hcur:∀ t,zez n (mm (L.setIfInBounds s.i true)) tr e0 t=(zez n (mm L) tr e0).put n s.o.dst s.v t:=by
  intro t
  rw[he,zzg,zzg]
  simp only[zez]
  rw[if_pos (by rw[hset];simp),if_neg (by rw[hu];simp)]
  rw[z3t (mm (L.setIfInBounds s.i true)) (mm L) X e0 fun p hp=>by rw[hset,if_neg (hneX p hp)]]
  rw[z3t (mm (L.setIfInBounds s.i true)) (mm L) Y _ fun q hq=>by rw[hset,if_neg (hneY q hq)]]
  refine zbre (mm L) Y _ (fun q hq hm t ht hd=>?_) t
  rw[(pY q hq).1 (zbpd ht hd)] at hm;cases hm
 have envOf:∀ {ρ':Ren} {r':V},ρ.le ρ'→VRel ρ' s.v r'→EnvRel n ρ' (zez n (mm (L.setIfInBounds s.i true)) tr e0) (a.put s.o.dst r'):=by
  intro ρ' r' hle hv
  have h1:=(I.env.mono hle).put s.o.dst hv
  exact⟨h1.size,fun t=>by rw[hcur];exact h1.slot t⟩
 have hsize:(L.setIfInBounds s.i true).size=ops.size:=by simp[I.size]
 have hdown:Down ops (mm (L.setIfInBounds s.i true)):=by
  intro j hj
  rw[hset] at hj
  have up:∀ x,mm L x=true→mm (L.setIfInBounds s.i true) x=true:=by intro x hx;rw[hset];split <;> simp_all
  split at hj
  ·rename_i q;subst q;obtain⟨o,h1,h2⟩:=hready;exact⟨o,h1,fun e hm hb=>up _ (h2 e hm hb)⟩
  ·obtain⟨o,h1,h2⟩:=I.down j hj;exact⟨o,h1,fun e hm hb=>up _ (h2 e hm hb)⟩
 have hfree:∀ {ρ':Ren},(∀ X s' Y j,tr=X ++ s' :: Y→s'.kd = .float j→s'.i≠s.i→mm L s'.i=false→ρ' (base + j)=none) →
   ∀ X s' Y j,tr=X ++ s' :: Y→s'.kd = .float j→mm (L.setIfInBounds s.i true) s'.i=false→ρ' (base + j)=none:=by
  intro ρ' h X' s' Y' j h1 h2 h3
  rw[hset] at h3
  split at h3
  ·cases h3
  ·rename_i q;exact h X' s' Y' j h1 h2 q h3
 have uniq:∀ {X':List Tr} {s':Tr} {Y':List Tr},tr=X' ++ s' :: Y'→s'.i=s.i→X'=X∧s'=s∧Y'=Y:=by
  intro X' s' Y' he' hii
  have key:∀ (A:List Tr) (B:List Tr) (u v:Tr) (C D:List Tr),A ++ u :: C=B ++ v :: D→(∀ p∈A,p.i≠v.i)→(∀ p∈B,p.i≠u.i)→A=B∧u=v∧C=D:=by
   intro A
   induction A with
   | nil =>
    intro B u v C D h hA hB
    cases B with
    | nil=>simp at h;exact⟨rfl,h.1,h.2⟩
    | cons b B=>simp at h;exact absurd (by rw[h.1]) (hB b (by simp))
   | cons x A ih =>
    intro B u v C D h hA hB
    cases B with
    | nil=>simp at h;exact absurd (by rw[h.1]) (hA x (by simp))
    | cons b B =>
     simp at h
     obtain⟨g1,g2,g3⟩:=ih B u v C D h.2 (fun p hp=>hA p (by simp[hp])) (fun p hp=>hB p (by simp[hp]))
     exact⟨by rw[h.1,g1],g2,g3⟩
  exact key X' X s' s Y' Y (he'.symm.trans he) (fun p hp=>by rw[← hii];exact (S.ne he').1 p hp) (fun p hp=>by rw[hii];exact hneX p hp)
 have hchainSame:s.kd.isChain=false→∀ X s' Y,tr=X ++ s' :: Y→s'.kd.isChain=true→(mm (L.setIfInBounds s.i true) s'.i=true↔cnt X < k):=by
  intro hc X' s' Y' he' hs'
  rw[hset]
  split
  ·rename_i q
   obtain⟨_,rfl,_⟩:=uniq he' q
   rw[hc] at hs';cases hs'
  ·exact I.chain X' s' Y' he' hs'
 have hflSame:s.kd.isFloat=false→∀ (B:List Tr) G,(∀ x∈B,x∈tr)→zbo (mm (L.setIfInBounds s.i true)) base B G=zbo (mm L) base B G:=by
  intro hf B G hB
  refine zja _ _ B G fun x hx j hj=>?_
  rw[hset]
  split
  ·rename_i q
   obtain⟨X1,Y1,h1⟩:=List.append_of_mem (hB x hx)
   obtain⟨_,rfl,_⟩:=uniq h1 q
   rw[hj] at hf;cases hf
  ·rfl
 have afterSub:∀ x∈after k tr,x∈tr:=by
  intro x hx
  obtain⟨X1,h1,_⟩:=zjf k tr I.kle
  rw[h1];simp[hx]
 unfold wpOp
 rw[hops]
 simp only
 have still:s.kd.isChain=false→s.kd.isFloat=false→(cls P s.o.op = .mv∨cls P s.o.op = .pure∨cls P s.o.op = .read)→∀ {G:Heap} {H1:Heap},Rel N w₀ ρ G w→gdM P σ ops s.o s.env G=some (s.v,H1) →
   if Region.wanted s.o (yielded ops a.tmps) then s.o.wp P a w K Q∨(s.o.asks P a w∧LetsOut Q) else K (a.put s.o.dst undef) w:=by
  intro hc hf hcls G H1 hG hgd
  rw[hgdE] at hgd
  have:=zbra (Q:=Q) (K:=K) S.hG hG I.env hcls hgd fun r' hr'=>by
   refine hK _ w ρ k ⟨hsize,hdown,I.kle,hchainSame hc,?_,envOf (.refl _) hr',?_,hfree fun X' s' Y' j h1 h2 _ h4=>I.free X' s' Y' j h1 h2 h4,?_⟩
   ·rw[hflSame hf _ _ afterSub];exact I.rel
   ·rw[hflSame hf _ _ afterSub];exact I.ext
   ·rw[zzc];exact I.defers
  split
  ·rename_i hw;rw[if_pos hw] at this;exact .inl this
  ·rename_i hw;rw[if_neg hw] at this;exact this
 have freeV:∀ x∈after k tr,∀ j,x.kd = .float j→(zbn k Hs tr).get (base + j)=none∧base + j < (zbn k Hs tr).next:=by
  intro x hx j hj
  obtain⟨X1,h1,h2⟩:=zjf k tr I.kle
  obtain⟨A,B,h3⟩:=List.append_of_mem hx
  have he3:tr=(X1 ++ A) ++ x :: B:=by rw[h1,h3];simp
  exact zbrg S.run S.free he3 hj (by rw[zbcp];omega)
 have relV:Rel N w₀ ρ (zbn k Hs tr) w:=by
  refine I.rel.shrink (zfb _ _ _).symm fun b x hb=>?_
  rcases zkz (base:=base) (mm L) (after k tr) (zbn k Hs tr) (zbn k Hs tr) (fun x hx j hj=>⟨(freeV x hx j hj).2,(freeV x hx j hj).2⟩) b with⟨⟨x',hx',j,hj,_,rfl⟩,_⟩ | ⟨q,_⟩
  ·rw[(freeV x' hx' j hj).1] at hb;cases hb
  ·rw[q];exact hb
 cases hk:s.kd with
 | quiet =>
  rw[hk] at hstep hkd
  have hcls:=zbrf hkd.symm
  have hq:=z9o hcls hstep
  exact still (by rw[hk];rfl) (by rw[hk];rfl) (hcls.imp id .inl) I.rel (hq.2 _)
 | read =>
  rw[hk] at hstep hkd
  have hcls:=zbny hkd.symm
  have hread:s.kd.isRead=true:=by rw[hk];rfl
  by_cases hown:k=cnt X
  ·subst hown
   have:=zbjo S.run true Hs S.rd (fun _=>rfl) X s Y he hread
   rw[this] at hstep
   exact still (by rw[hk];rfl) (by rw[hk];rfl) (.inr (.inr hcls)) relV hstep
  ·have hv:=zbco tr Hs k I.kle
   have hco:zy7 (Region.before ops) (zwf tr) s.i k=true:=by
    simp only[zy7,Bool.and_eq_true,List.all_eq_true,Bool.not_eq_true']
    constructor
    ·intro c hc
     cases hb:z7b (Region.before ops) c s.i with
     | false=>rfl
     | true =>
      obtain⟨j,hj⟩:=List.getElem?_of_mem hc
      have hjk:j < k:=by
       rcases Nat.lt_or_ge j k with q | q
       ·exact q
       ·rw[List.getElem?_eq_none (by simp;omega)] at hj;cases hj
      rw[List.getElem?_take,if_pos hjk] at hj
      obtain⟨X1,p,Y1,h1,h2,h3,h4⟩:=zwi tr j c hj
      have hm:=(I.chain X1 p Y1 h1 h2).2 (by omega)
      rw[h4] at hm
      have:=zth (Mp:=fun j=>mm L j=true) (fun j hj=>I.down j hj) c hm s.i hb
      rw[hu] at this;cases this
    ·intro c hc
     cases hb:z7b (Region.before ops) s.i c with
     | false=>rfl
     | true =>
      obtain⟨j,hj⟩:=List.getElem?_of_mem hc
      rw[List.getElem?_drop] at hj
      obtain⟨X1,p,Y1,h1,h2,h3,h4⟩:=zwi tr (k + j) c hj
      have hnm:¬ mm L p.i=true:=fun q=>by have:=(I.chain X1 p Y1 h1 h2).1 q;omega
      have hdown2:∀ j,(mm L j=true∨j=s.i)→∃ o,ops[j]? = some o∧∀ e∈o.after.toList,Region.binds .any e=true→(mm L e.on=true∨e.on=s.i):=by
       intro j hj
       rcases hj with hj | rfl
       ·obtain⟨o,h1,h2⟩:=I.down j hj;exact⟨o,h1,fun e he hb => .inl (h2 e he hb)⟩
       ·obtain⟨o,h1,h2⟩:=hready;exact⟨o,h1,fun e he hb => .inl (h2 e he hb)⟩
      rcases zth (Mp:=fun j=>mm L j=true∨j=s.i) hdown2 s.i (.inr rfl) c hb with q | q
      ·rw[h4] at hnm;exact absurd q hnm
      ·obtain⟨_,rfl,_⟩:=uniq h1 (by rw[h4,q])
       rw[hk] at h2;cases h2
   obtain⟨H1,hg⟩:=zbrd (S.chk X s Y he hread k _ hv hown hco)
   exact still (by rw[hk];rfl) (by rw[hk];rfl) (.inr (.inr hcls)) relV hg
 | chain =>
  have hsc:s.kd.isChain=true:=by rw[hk];rfl
  have hkX:k=cnt X:=by
   have h1:¬ cnt X < k:=fun q=>by have:=(I.chain X s Y he hsc).2 q;rw[hu] at this;cases this
   rcases Nat.lt_or_ge k (cnt X) with q | q
   ·obtain⟨X1,p,X2,g1,g2,g3⟩:=z1i X k q
    have hp:p∈X:=by rw[g1];simp
    have hm:=sideX p hp ((pX p hp).2.1 g2 hsc)
    have he3:tr=X1 ++ p :: (X2 ++ s :: Y):=by rw[he,g1];simp
    have:=(I.chain X1 p _ he3 g2).1 hm
    omega
   ·omega
  subst hkX
  have hD:after (cnt X) tr=after (cnt X) X ++ s :: Y:=by rw[he];exact z7t X _ _ (Nat.le_refl _)
  have hseg:=(zbjq S.run Hs [] rfl).1 X s Y he
  have hsegD:s.H=zbo (fun _=>true) base (after (cnt X) X) (zbn (cnt X) Hs tr):=by
   rw[hseg]
   by_cases hz:cnt X=0
   ·rw[if_pos hz,hz];simp[after]
   ·rw[if_neg hz]
  have subD:∀ x∈after (cnt X) X,x∈X:=by
   intro x hx
   obtain⟨X1,h1,_⟩:=zjf (cnt X) X (Nat.le_refl _)
   rw[h1];simp[hx]
  have hsH:s.H=zbo (mm L) base (after (cnt X) X) (zbn (cnt X) Hs tr):=by
   rw[hsegD]
   refine zja _ _ _ _ fun x hx j hj=>?_
   have hp:=subD x hx
   exact (sideX x hp ((pX x hp).2.2 (by rw[hj];rfl) hsc)).symm
  have hHL:zbo (mm L) base (after (cnt X) tr) (zbn (cnt X) Hs tr)=zbo (mm L) base Y s.H:=by
   rw[hD,zl3,← hsH]
   simp[zbo,hk]
  rw[hk] at hend
  simp only[zue,Bool.and_eq_true] at hend
  have freeY:∀ x∈Y,∀ j,x.kd = .float j→(s.H.get (base + j)=none∧base + j < s.H.next)∧(s.H'.get (base + j)=none∧base + j < s.H'.next):=by
   intro x hx j hj
   obtain⟨Y1,Y2,rfl⟩:=List.append_of_mem hx
   have he3:tr=(X ++ s :: Y1) ++ x :: Y2:=by rw[he];simp
   obtain⟨_,_,_,q,_⟩:=S.run.split he3
   rw[hj] at q
   have hm:base + j∈kept fl base ((Y1 ++ x :: Y2).map (·.i)):=z7s (z1h q.symm) _ (by simp)
   exact⟨zrq _ hend.1 hm,zrq _ hend.2 hm⟩
  have hrelA:=I.rel
  rw[hHL] at hrelA
  have hextA:=I.ext
  rw[hHL] at hextA
  have relS:Rel N w₀ ρ s.H w:=by
   refine hrelA.shrink (zfb _ _ _).symm fun b x hb=>?_
   rcases zkz (base:=base) (mm L) Y s.H s.H (fun x hx j hj=>⟨(freeY x hx j hj).1.2,(freeY x hx j hj).1.2⟩) b with⟨⟨x',hx',j,hj,_,rfl⟩,_⟩ | ⟨q,_⟩
   ·rw[(freeY x' hx' j hj).1.1] at hb;cases hb
   ·rw[q];exact hb
  rw[hk] at hstep
  have hgd:gdM P σ ops s.o s.env s.H=some (s.v,s.H'):=hstep
  rw[hgdE] at hgd
  have:=zbnx (Q:=Q) (K:=K) S.hσ S.hG relS I.env hgd fun r' w' ⟨ρ',g1,g2,g3⟩=>by
   obtain⟨q1,q2⟩:=zbzt hrelA g2 g3 fun x hx j hj=>⟨(freeY x hx j hj).1.1,(freeY x hx j hj).1.2,(freeY x hx j hj).2.1⟩
   have hveq:zbn (cnt X + 1) Hs tr=s.H':=by
    rw[he,show cnt X + 1=cnt X + (0 + 1) by omega,zze]
    simp[zbn,hsc]
   have haeq:after (cnt X + 1) tr=Y:=by
    rw[he,show cnt X + 1=cnt X + (0 + 1) by omega,zzf]
    simp[after,hsc]
   have hfs:zbo (mm (L.setIfInBounds s.i true)) base Y s.H'=zbo (mm L) base Y s.H':=by
    refine zja _ _ _ _ fun x hx j hj=>?_
    rw[hset,if_neg (hneY x hx)]
   refine hK _ w' ρ' (cnt X + 1) ⟨hsize,hdown,?_,fun X' s' Y' he' hs'=>?_,?_,envOf g3.le g1,?_,hfree fun X' s' Y' j h1 h2 h3 h4=>?_,?_⟩
   ·rw[he,zbnz hsc];omega
   ·rw[hset]
    split
    ·rename_i qq
     obtain⟨rfl,rfl,_⟩:=uniq he' qq
     simp
    ·rename_i qq
     rw[I.chain X' s' Y' he' hs']
     constructor
     ·intro h;omega
     ·intro h
      rcases Nat.lt_or_ge (cnt X') (cnt X) with h5 | h5
      ·exact h5
      ·exfalso
       have heq:cnt X'=cnt X:=by omega
       have key:∀ (A B:List Tr) (u v:Tr) (C D:List Tr),A ++ u :: C=B ++ v :: D→u.kd.isChain=true→v.kd.isChain=true→cnt A=cnt B→u=v:=by
        intro A
        induction A with
        | nil =>
         intro B u v C D h hu hv hc
         cases B with
         | nil=>simp at h;exact h.1
         | cons b B=>simp at h;rw[← h.1] at hc;simp[cnt,hu] at hc;omega
        | cons x A ih =>
         intro B u v C D h hu hv hc
         cases B with
         | nil=>simp at h;rw[h.1] at hc;simp[cnt,hv] at hc
         | cons b B=>simp at h;rw[h.1] at hc;exact ih B u v C D h.2 hu hv (by simp only[cnt] at hc;omega)
       have:=key X' X s' s Y' Y (he'.symm.trans he) hs' hsc heq
       exact qq (by rw[this])
   ·rw[haeq,hveq,hfs];exact q1
   ·rw[haeq,hveq,hfs];exact hextA.trans q2
   ·have h5:=I.free X' s' Y' j h1 h2 h4
    have hin:s'∈Y∨s'∈X:=by
     have:s'∈tr:=by rw[h1];simp
     rw[he] at this
     rcases List.mem_append.1 this with q | q
     ·exact .inr q
     ·rcases List.mem_cons.1 q with q | q
      ·exact absurd (by rw[q]) h3
      ·exact .inl q
    rcases hin with hin | hin
    ·rw[g3.same _ (freeY s' hin j h2).1.2];exact h5
    ·exact absurd (sideX s' hin ((pX s' hin).2.2 (by rw[h2];rfl) hsc)) (by rw[h4];simp)
   ·rw[zzc];exact I.defers
  split
  ·rename_i hw;rw[if_pos hw] at this;exact .inl this
  ·rename_i hw;rw[if_neg hw] at this;exact this
 | float j =>
  rw[hk] at hstep hkd
  obtain⟨hg0,hmk,x,v0,hact,hv,hno,hlt2,hH'⟩:=hstep
  have hsf:s.kd.isFloat=true:=by rw[hk];rfl
  have hsc:s.kd.isChain=false:=by rw[hk];rfl
  have hkX:k≤cnt X:=by
   rcases Nat.lt_or_ge (cnt X) k with q | q
   ·exfalso
    have hq2:cnt X < cnt tr:=Nat.lt_of_lt_of_le q I.kle
    obtain⟨X1,p,X2,g1,g2,g3⟩:=z1i tr (cnt X) hq2
    have hm:=(I.chain X1 p X2 g1 g2).2 (by omega)
    have hp:p∈X∨p∈Y:=by
     have:p∈tr:=by rw[g1];simp
     rw[he] at this
     rcases List.mem_append.1 this with q | q
     ·exact .inl q
     ·rcases List.mem_cons.1 q with q | q
      ·rw[q,hsc] at g2;cases g2
      ·exact .inr q
    rcases hp with hp | hp
    ·-- a chain operation ahead of it has a smaller number
     obtain⟨A,B,h1⟩:=List.append_of_mem hp
     have he3:tr=A ++ p :: (B ++ s :: Y):=by rw[he,h1];simp
     have h2:cnt X=cnt A + 1 + cnt B:=by rw[h1];exact zbnz g2
     have key:∀ (A B:List Tr) (u v:Tr) (C D:List Tr),A ++ u :: C=B ++ v :: D→u.i=v.i→(∀ p∈A,p.i≠v.i)→(∀ p∈B,p.i≠u.i)→A=B:=by
      intro A
      induction A with
      | nil=>intro B u v C D h hi hA hB;cases B with
       | nil=>rfl
       | cons b B=>simp at h;exact absurd (by rw[h.1]) (hB b (by simp))
      | cons x A ih=>intro B u v C D h hi hA hB;cases B with
       | nil=>simp at h;exact absurd (by rw[h.1]) (hA x (by simp))
       | cons b B=>simp at h;rw[h.1,ih B u v C D h.2 hi (fun p hp=>hA p (by simp[hp])) (fun p hp=>hB p (by simp[hp]))]
     have:=key A X1 p p _ _ (he3.symm.trans g1) rfl (fun y hy=>(S.ne he3).1 y hy) (fun y hy=>(S.ne g1).1 y hy)
     rw[this] at h2;omega
    ·have:=(pY p hp).2.2 hsf g2
     rw[this] at hm;cases hm
   ·exact q
  have hD:after k tr=after k X ++ s :: Y:=by rw[he];exact z7t X _ _ hkX
  have hidx:zwe fl s.i=some j:=z1h hkd.symm
  have otherId:∀ y∈tr,∀ j',y.kd = .float j'→y.i≠s.i→base + j'≠base + j:=by
   intro y hy j' hj' hne e
   obtain⟨A,B,h1⟩:=List.append_of_mem hy
   obtain⟨_,_,_,q,_⟩:=S.run.split h1
   rw[hj'] at q
   have:j'=j:=by omega
   rw[this] at q
   exact hne (zbga fl (z1h q.symm) hidx)
  have hsin:s∈after k tr:=by rw[hD];simp
  have hver:=freeV s hsin j hk
  have hblk:s.H'.get (base + j)=some x:=by rw[hH',Heap.get_set _ _ _ _ hlt2];simp
  have hget:∀ b,(zbo (mm (L.setIfInBounds s.i true)) base (after k tr) (zbn k Hs tr)).get b=((zbo (mm L) base (after k tr) (zbn k Hs tr)).set (base + j) (some x)).get b:=by
   intro b
   rw[hD,zl3,zl3]
   have e1:zbo (mm (L.setIfInBounds s.i true)) base (after k X) (zbn k Hs tr)=zbo (mm L) base (after k X) (zbn k Hs tr):=by
    refine zja _ _ _ _ fun y hy j' hj'=>?_
    have:y∈X:=by
     obtain⟨X1,h1,_⟩:=zjf k X hkX
     rw[h1];simp[hy]
    rw[hset,if_neg (hneX y this)]
   rw[e1]
   have hm1:mm (L.setIfInBounds s.i true) s.i=true:=by rw[hset];simp
   simp only[zbo,hk,hm1,if_true,hu,Bool.false_eq_true,if_false,hblk]
   have e2:∀ G,zbo (mm (L.setIfInBounds s.i true)) base Y G=zbo (mm L) base Y G:=fun G=>zja _ _ _ _ fun y hy j' hj'=>by rw[hset,if_neg (hneY y hy)]
   rw[e2]
   have hYids:∀ y∈Y,∀ j',y.kd = .float j'→mm L y.i=true→base + j'≠base + j:=fun y hy j' hj' _=>otherId y (by rw[he];simp[hy]) j' hj' (hneY y hy)
   have hnx:base + j < (zbo (mm L) base (after k X) (zbn k Hs tr)).next:=by rw[zfb];exact hver.2
   by_cases hb:b=base + j
   ·subst hb
    rw[z1g (mm L) Y _ hYids,Heap.get_set _ _ _ _ hnx,Heap.get_set _ _ _ _ (by rw[zfb];exact hnx)]
    simp
   ·rw[Heap.get_set_ne _ _ _ hb]
    rcases zkz (base:=base) (mm L) Y ((zbo (mm L) base (after k X) (zbn k Hs tr)).set (base + j) (some x)) (zbo (mm L) base (after k X) (zbn k Hs tr)) (fun y hy j' hj'=>by
     have h1:=freeV y (by rw[hD];simp[hy]) j' hj'
     rw[Heap.next_set,zfb];exact⟨h1.2,h1.2⟩) b with⟨_,q⟩ | ⟨q1,q2⟩
    ·exact q
    ·rw[q1,q2,Heap.get_set_ne _ _ _ hb]
  have hfreeA:(zbo (mm L) base (after k tr) (zbn k Hs tr)).get (base + j)=none:=by
   rw[z1g (mm L) (after k tr) _ fun y hy j' hj' hm=>otherId y (afterSub y hy) j' hj' fun e=>by rw[e,hu] at hm;cases hm]
   exact hver.1
  have hρ:=I.free X s Y j he hk hu
  have hw:Region.wanted s.o (yielded ops a.tmps)=true:=by simp[Region.wanted,hg0]
  rw[if_pos hw]
  left
  have hactE:actM P (evO P (zez n (mm L) tr e0)) s.o.op Heap.none0=some (v0,Heap.one x):=by
   rw[← zbcm s.o.op (e:=evO P s.env) fun z hz=>zbf9 z fun t ht=>hen t (by
    have:zcx ops s.o=some none:=by simp[zcx,hg0]
    simp only[zbaj,this];exact zbcn hz ht)]
   exact hact
  obtain⟨x2,hx2,r',w',hrun,hmko⟩:=zbq7 (P:=P) I.rel.big (z3r S.hG I.rel I.env) s.o hmk hactE
  cases hx2
  unfold Oper.wp
  rw[hrun]
  show K (a.put s.o.dst r') w'
  obtain⟨ob,nd,sz,rfl,hB,hV⟩:=hmko
  have hle:ρ.le (ρ.add (base + j) ⟨w.heap.size,0,sz⟩):=Ren.le_add _ hρ
  have hadd:ρ.add (base + j) ⟨w.heap.size,0,sz⟩ (base + j)=some ⟨w.heap.size,0,sz⟩:=by simp[Ren.add]
  have hheap:∀ c,c < w.heap.size→(({ w with drawn:=nd }:World).alloc ob).heap[c]? = w.heap[c]? := by
   intro c hc
   show (w.heap.push ob)[c]? = _
   rw[Array.getElem?_push,if_neg (by omega)]
  have hnext:base + j < (zbo (mm L) base (after k tr) (zbn k Hs tr)).next:=by rw[zfb];exact hver.2
  have hR:Rel N w₀ (ρ.add (base + j) ⟨w.heap.size,0,sz⟩) ((zbo (mm L) base (after k tr) (zbn k Hs tr)).set (base + j) (some x)) (({ w with drawn:=nd }:World).alloc ob):=by
   refine⟨I.rel.below.trans ⟨rfl,rfl,rfl,by simp,fun c hc=>hheap c (Nat.lt_of_lt_of_le hc I.rel.big)⟩,?_,fun b hb=>?_,fun b hb=>?_,fun b y hb=>?_,fun b b' y y' L1 L2 hb hb' hne hL1 hL2=>?_⟩
   ·have:=I.rel.big;simp;omega
   ·rw[Heap.next_set] at hb
    unfold Ren.add;rw[if_neg (by omega)];exact I.rel.dom b hb
   ·obtain⟨z,hz⟩:=I.rel.base b hb;exact⟨z,hle _ _ hz⟩
   ·rw[Heap.get_set _ _ _ _ hnext] at hb
    split at hb
    ·rename_i e;cases hb;subst e;exact⟨_,hadd,hB _ hle⟩
    ·obtain⟨L1,hL1,hr⟩:=I.rel.blk b y hb
     exact⟨L1,hle _ _ hL1,hr.mono hle (hheap _ (I.rel.lt hb hL1))⟩
   ·rw[Heap.get_set _ _ _ _ hnext] at hb hb'
    unfold Ren.add at hL1 hL2
    by_cases e1:b=base + j
    ·have e2:b'≠base + j:=fun q=>hne (e1.trans q.symm)
     rw[if_pos e1] at hL1;rw[if_neg e2] at hb' hL2;cases hL1
     have:=I.rel.lt hb' hL2
     intro q;rw[← q] at this;exact Nat.lt_irrefl _ this
    ·by_cases e2:b'=base + j
     ·rw[if_neg e1] at hb hL1;rw[if_pos e2] at hL2;cases hL2
      have:=I.rel.lt hb hL1
      intro q;rw[q] at this;exact Nat.lt_irrefl _ this
     ·rw[if_neg e1] at hb hL1;rw[if_neg e2] at hb' hL2
      exact I.rel.inj b b' y y' L1 L2 hb hb' hne hL1 hL2
  have hE:Ext ρS HS wS (ρ.add (base + j) ⟨w.heap.size,0,sz⟩) ((zbo (mm L) base (after k tr) (zbn k Hs tr)).set (base + j) (some x)) (({ w with drawn:=nd }:World).alloc ob):=by
   refine⟨I.ext.le.trans hle,fun b hb=>?_,by rw[Heap.next_set];exact I.ext.next,⟨?_,fun c hc hn=>?_⟩,fun b y L1 hb hL1=>?_⟩
   ·unfold Ren.add;rw[if_neg (by omega)];exact I.ext.same b hb
   ·have:=I.ext.apart.1;simp;omega
   ·rw[hheap c (Nat.lt_of_lt_of_le hc I.ext.apart.1)];exact I.ext.apart.2 c hc hn
   ·rw[Heap.get_set _ _ _ _ hnext] at hb
    unfold Ren.add at hL1
    split at hb
    ·rename_i e;rw[if_pos e] at hL1;cases hL1;exact .inl I.ext.apart.1
    ·rename_i e;rw[if_neg e] at hL1;exact I.ext.old b y L1 hb hL1
  have hnx2:(zbo (mm (L.setIfInBounds s.i true)) base (after k tr) (zbn k Hs tr)).next=((zbo (mm L) base (after k tr) (zbn k Hs tr)).set (base + j) (some x)).next:=by rw[Heap.next_set,zfb,zfb]
  refine hK _ _ _ k ⟨hsize,hdown,I.kle,hchainSame hsc,hR.congr hnx2 hget,envOf hle (by rw[hv];exact hV _ _ hadd),hE.congr hnx2 hget,hfree fun X' s' Y' j' h1 h2 h3 h4=>?_,by rw[zzc];exact I.defers⟩
  unfold Ren.add
  rw[if_neg (otherId s' (by rw[h1];simp) j' h2 h3)]
  exact I.free X' s' Y' j' h1 h2 h4
end Go.AM
