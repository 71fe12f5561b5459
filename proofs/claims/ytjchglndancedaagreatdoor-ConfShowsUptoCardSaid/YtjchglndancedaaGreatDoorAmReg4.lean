import Derived.Test.YtjchglndancedaaGreatDoorAmOps9
import Derived.Orders
set_option linter.all false
/- Regions: one operation under its guard; regions in the order of the text. -/
namespace Go.AM
open Go.RowKit (Below)
variable {P:Program} {N:Nat} {w₀:World} {ρ:Ren} {H:Heap} {w:World} {σ:zx} {n:Nat}
structure EnvRel (n:Nat) (ρ:Ren) (en:Env) (a:Act):Prop where
 size:a.tmps.size=n
 slot:∀ t,VRel ρ (en t) (a.tmps.getD t undef)
theorem EnvRel.mono {ρ':Ren} {en:Env} {a:Act} (h:EnvRel n ρ en a) (hle:ρ.le ρ'):EnvRel n ρ' en a:=⟨h.size,fun t=>(h.slot t).mono hle⟩
theorem zb37 {a b:Nat} (h:a < b):Nat.blt a b=true:=Nat.blt_eq.mpr h
theorem zb61 {a b:Nat} (h:¬ a < b):Nat.blt a b=false:=by
 cases h2:Nat.blt a b with
 | false=>rfl
 | true=>exact absurd (Nat.blt_eq.mp h2) h
theorem zbme {a b:Nat} (h:¬ a=b):Nat.beq a b=false:=by
 cases h2:Nat.beq a b with
 | false=>rfl
 | true=>exact absurd (Nat.eq_of_beq_eq_true h2) h
theorem zbyv (a:Act) (d:Option Tmp) (v:V):(a.put d v).tmps.size=a.tmps.size:=by cases d <;> simp[Act.put]
theorem zbyw (a:Act) (d t:Nat) (v:V):(a.put (some d) v).tmps.getD t undef=if t=d∧d < a.tmps.size then v else a.tmps.getD t undef:=by
 simp only[Act.put,Array.getD_eq_getD_getElem?]
 rw[Array.getElem?_setIfInBounds]
 by_cases h:d=t
 ·subst h
  by_cases h2:d < a.tmps.size
  ·simp[h2]
  ·simp[h2]
 ·rw[if_neg h,if_neg (by intro q;exact h q.1.symm)]
theorem EnvRel.put {en:Env} {a:Act} (h:EnvRel n ρ en a) (d:Option Nat) {v v':V} (hv:VRel ρ v v'):EnvRel n ρ (en.put n d v) (a.put d v'):=by
 refine⟨by rw[zbyv];exact h.size,fun t=>?_⟩
 cases d with
 | none=>exact h.slot t
 | some d =>
  rw[zbyw]
  unfold Env.put
  by_cases h1:d < n
  ·have:Nat.blt d n=true:=zb37 h1
   simp only[this,cond_true]
   by_cases h2:t=d
   ·subst h2;rw[if_pos ⟨rfl,by rw[h.size];exact h1⟩];simpa using hv
   ·rw[if_neg (fun q=>h2 q.1)]
    have:Nat.beq t d=false:=zbme h2
    simp only[this,cond_false];exact h.slot t
  ·have:Nat.blt d n=false:=zb61 h1
   simp only[this,cond_false]
   rw[if_neg (fun q=>h1 (by rw[← h.size];exact q.2))]
   exact h.slot t
theorem z7v (hG:P.globals.size≤N) (h:Rel N w₀ ρ H w) {en:Env} {a:Act} (he:EnvRel n ρ en a) (z:Operand):VRel ρ (evO P en z) (a.eval z):=by
 cases z with
 | tmp t=>exact he.slot t
 | const v =>
  simp only[evO,Act.eval]
  cases hf:zge v with
  | true=>exact zpu hf
  | false=>exact .undef _
 | global g =>
  simp only[evO,Act.eval]
  cases hf:Nat.blt g P.globals.size with
  | true =>
   have hg:g < P.globals.size:=Nat.blt_eq.mp hf
   obtain⟨s,hs⟩:=h.base g (by omega)
   have:=VRel.ptr g 0 _ hs
   simpa using this
  | false=>exact .undef _
 | func f=>exact .func _ _ _ _ _ rfl rfl (fun i h=>by simp at h) (fun i h=>by simp at h)
theorem zbtn {o:Oper} {a:Act} {K:Act→World→Prop} {Q:Exit→Act→World→Prop} {nx:Next} {r':V} {w':World} (hh:zb36 nx r') (hk:K (a.put o.dst r') w'):o.upon P a K Q (.ok nx w'):=by
 rcases hh with rfl | ⟨rfl,rfl⟩
 ·exact hk
 ·exact hk
theorem zbmf (hσ:zd8 P σ) (hG:P.globals.size≤N) (h:Rel N w₀ ρ H w) {en:Env} {a:Act} (he:EnvRel n ρ en a) {o:Oper} {r:V} {H':Heap} (hl:zum P σ en o.op H=some (r,H')) {K:Act→World→Prop} {Q:Exit→Act→World→Prop}
  (hk:∀ r' w',zxv N w₀ ρ H w r H' r' w'→K (a.put o.dst r') w'):o.wp P a w K Q:=by
 have hr:=z7v hG h he
 unfold Oper.wp
 unfold zum at hl
 have hpure:za (z2s P (evO P en) o.op) H=some (r,H')→o.upon P a K Q ((execOp a.eval o).run P w):=by
  intro hl
  unfold za at hl
  cases hp:z2s P (evO P en) o.op with
  | none=>rw[hp] at hl;cases hl
  | some v =>
   rw[hp] at hl;cases hl
   obtain⟨r',h1,h2⟩:=zbhr (P:=P) hr (fun _=>rfl) o hp
   rw[h2 w]
   exact hk r' w ⟨ρ,h1,h,.refl _ _ _⟩
 cases hc:cls P o.op with
 | mv=>rw[hc] at hl;exact hpure hl
 | pure=>rw[hc] at hl;exact hpure hl
 | read =>
  rw[hc] at hl
  obtain⟨rfl,r',h1,h2⟩:=zbhu (P:=P) h hr o hl
  rw[h2]
  exact hk r' w ⟨ρ,h1,h,.refl _ _ _⟩
 | act =>
  rw[hc] at hl
  obtain⟨nx,r',w',h1,h2,h3⟩:=zbwp (P:=P) h hr o hl
  rw[h1]
  exact zbtn h2 (hk r' w' h3)
 | call =>
  rw[hc] at hl
  obtain⟨dst,op,ty,pos,after,guard⟩:=o
  cases op <;> simp only at hl <;> first | exact (z6 hl).elim | skip
  rename_i c
  cases hcc:c.callee <;> rw[hcc] at hl <;> simp only at hl <;> first | exact (z6 hl).elim | skip
  ·rename_i f
   obtain⟨g,gargs,h1,h2⟩:=zbtl (P:=P) hσ hG h (hr f) (zban hr c.args.toList) hl c a.eval f ty hcc rfl (by simp)
   show Oper.upon P _ a K Q (Sem.run P (do let d ← resolve a.eval c ty;invoke d.target d.args) w)
   rw[h1]
   refine h2.mono fun e w' ⟨r',he',hg⟩=>?_
   subst he'
   exact hk r' w' hg
  ·rename_i f name
   obtain⟨g,gargs,h1,h2⟩:=zbwq (P:=P) hσ hG h (hr f) (zban hr c.args.toList) hl c a.eval f ty hcc rfl (by simp)
   show Oper.upon P _ a K Q (Sem.run P (do let d ← resolve a.eval c ty;invoke d.target d.args) w)
   rw[h1]
   refine h2.mono fun e w' ⟨r',he',hg⟩=>?_
   subst he'
   exact hk r' w' hg
theorem zbu8 {x:V} {b:Bool} (h:VRel ρ x (.bool b)):x = .bool b∨x = .tuple #[]:=by
 generalize hv:Value.bool b=v at h
 cases h <;> first | (cases hv;done) | (cases hv;exact .inl rfl) | exact .inr rfl
theorem zbh0 {ops:Array Oper} {tmps:Array V} {j d:Nat} {oj:Oper} (h1:ops[j]? = some oj) (h2:oj.dst=some d):yielded ops tmps j=match tmps.getD d undef with | .bool b=>some b | _=>none:=by
 unfold yielded
 simp only[h1,Option.bind_some,h2,Array.getD_eq_getD_getElem?]
 cases h:tmps[d]? with
 | none=>simp[undef]
 | some v=>cases v <;> rfl
theorem zbca {g:V} {want:Bool} {m:M V} {r:V} {H':Heap} (h:gd g want m H=some (r,H')) :
  (∃ b,g = .bool b∧((b=want∧m H=some (r,H'))∨(b≠want∧r=zqm∧H'=H)))∨((∀ b,g ≠ .bool b)∧g ≠ .tuple #[]∧r=zqm∧H'=H):=by
 cases g <;> simp only[gd] at h
 case bool b =>
  left
  refine⟨b,rfl,?_⟩
  by_cases hb:b=want
  ·subst hb;rw[if_pos (by simp)] at h;exact .inl ⟨rfl,h⟩
  ·rw[if_neg (by simpa using hb)] at h;cases h;exact .inr ⟨hb,rfl,rfl⟩
 case tuple vs =>
  right
  split at h
  ·exact (z6 h).elim
  ·rename_i hne;cases h
   exact⟨by simp,fun q=>by cases q;simp at hne,rfl,rfl⟩
 all_goals (right;cases h;exact⟨by simp,by simp,rfl,rfl⟩)
theorem zbu9 (hσ:zd8 P σ) (hG:P.globals.size≤N) (h:Rel N w₀ ρ H w) {en:Env} {a:Act} (he:EnvRel n ρ en a) {ops:Array Oper} {o:Oper} {r:V} {H':Heap} (hl:gdM P σ ops o en H=some (r,H')) {K:Act→World→Prop} {Q:Exit→Act→World→Prop}
  (hk:∀ r' w',zxv N w₀ ρ H w r H' r' w'→K (a.put o.dst r') w'):if Region.wanted o (yielded ops a.tmps) then o.wp P a w K Q else K (a.put o.dst undef) w:=by
 unfold gdM at hl
 cases hgd:o.guard with
 | none =>
  have:zc6 ops o=some none:=by simp[zc6,hgd]
  rw[this] at hl
  simp only[Region.wanted,hgd,if_true]
  exact zbmf hσ hG h he hl hk
 | some jw =>
  obtain⟨j,want⟩:=jw
  cases hj:ops[j]? with
  | none=>simp only[zc6,hgd,hj] at hl;exact (z6 hl).elim
  | some oj =>
   cases hd:oj.dst with
   | none=>simp only[zc6,hgd,hj,hd] at hl;exact (z6 hl).elim
   | some d =>
    have:zc6 ops o=some (some (d,want)):=by simp[zc6,hgd,hj,hd]
    rw[this] at hl
    simp only at hl
    have hy:=zbh0 (tmps:=a.tmps) hj hd
    have hs:=he.slot d
    have hskip:r=zqm→H'=H→K (a.put o.dst undef) w:=by
     intro e1 e2;subst e1;subst e2
     exact hk undef w ⟨ρ,.skip,h,.refl _ _ _⟩
    simp only[Region.wanted,hgd]
    rcases zbca hl with⟨b,hb,hq⟩ | ⟨hb,ht,e1,e2⟩
    ·rw[hb] at hs
     rw[hy,hs.bool_inv]
     rcases hq with⟨hbw,hm⟩ | ⟨hbw,e1,e2⟩
     ·rw[if_pos (by simp[hbw])]
      exact zbmf hσ hG h he hm hk
     ·rw[if_neg (by simp[hbw])]
      exact hskip e1 e2
    ·have hn:∀ b,a.tmps.getD d undef ≠ .bool b:=fun b hb2=>by
      rw[hb2] at hs
      rcases zbu8 hs with q | q
      ·exact hb b q
      ·exact ht q
     have hy2:yielded ops a.tmps j=none:=by
      rw[hy]
      split
      ·rename_i b hb;exact absurd hb (hn b)
      ·rfl
     rw[hy2,if_neg (by simp)]
     exact hskip e1 e2
theorem z1e (a:Act) (d:Option Tmp) (v:V):(a.put d v).defers=a.defers:=by cases d <;> rfl
theorem zbcb {R:Type} (hσ:zd8 P σ) (hG:P.globals.size≤N) (ops:Array Oper) {Q:Exit→Act→World→Prop} {r:R} {Hf:Heap} {k:Env→M R}:∀ (l:List Oper) (ρ:Ren) (H:Heap) (w:World) (en:Env) (a:Act),Rel N w₀ ρ H w→EnvRel n ρ en a →
  zbeh P σ n ops l en k H=some (r,Hf) →
  (∀ ρ' H' w' en' a',Rel N w₀ ρ' H' w'→EnvRel n ρ' en' a'→Ext ρ H w ρ' H' w'→a'.defers=a.defers→k en' H'=some (r,Hf)→Q .normal a' w')→wpList P ops Q l a w
 | [],ρ,H,w,en,a,h,he,hl,hq=>hq ρ H w en a h he (.refl _ _ _) rfl hl
 | o :: rest,ρ,H,w,en,a,h,he,hl,hq=>by
  unfold wpList
  simp only[zbeh] at hl
  have goOn:∀ r1 H1,(zbeh P σ n ops rest (en.put n o.dst r1) k) H1=some (r,Hf)→∀ r' w',zxv N w₀ ρ H w r1 H1 r' w'→wpList P ops Q rest (a.put o.dst r') w':=by
   intro r1 H1 hrun r' w' ⟨ρ',g1,g2,g3⟩
   exact zbcb hσ hG ops rest ρ' H1 w' _ _ g2 ((he.mono g3.le).put o.dst g1) hrun fun ρ2 H2 w2 en2 a2 q1 q2 q3 q4 q5=>hq ρ2 H2 w2 en2 a2 q1 q2 (g3.trans q3) (q4.trans (z1e _ _ _)) q5
  cases hm:z08 o with
  | some x =>
   rw[hm] at hl
   unfold z08 at hm
   split at hm
   ·rename_i y hg ho
    cases hm
    have:Region.wanted o (yielded ops a.tmps)=true:=by simp[Region.wanted,hg]
    rw[if_pos this]
    left
    have hrun:(execOp a.eval o).run P w = .ok (.value (a.eval x)) w:=by
     obtain⟨dst,op,ty,pos,after,guard⟩:=o
     simp only at ho;subst ho;simp[execOp]
    unfold Oper.wp
    rw[hrun]
    exact goOn _ _ hl _ _ ⟨ρ,z7v hG h he x,h,.refl _ _ _⟩
   ·rename_i y hg ho
    cases hm
    have:Region.wanted o (yielded ops a.tmps)=true:=by simp[Region.wanted,hg]
    rw[if_pos this]
    left
    have hrun:(execOp a.eval o).run P w = .ok (.value (a.eval x)) w:=by
     obtain⟨dst,op,ty,pos,after,guard⟩:=o
     simp only at ho;subst ho;simp[execOp]
    unfold Oper.wp
    rw[hrun]
    exact goOn _ _ hl _ _ ⟨ρ,z7v hG h he x,h,.refl _ _ _⟩
   ·cases hm
  | none =>
   rw[hm] at hl
   simp only[zb] at hl
   split at hl
   ·rename_i r1 H1 hgd
    have:=zbu9 (Q:=Q) hσ hG h he hgd (goOn r1 H1 hl)
    split
    ·rename_i hw;rw[if_pos hw] at this;exact .inl this
    ·rename_i hw;rw[if_neg hw] at this;exact this
   ·cases hl
end Go.AM

/- Regions whose order is drawn: words. -/
namespace Go.AM
open Go.RowKit (Below)
variable {P:Program} {N:Nat} {w₀:World} {ρ:Ren} {H:Heap} {w:World} {σ:zx} {n:Nat}
theorem zbcc {pl:List (Nat × Nat)} {e c:Operand→V}:∀ (ps:List (Nat × Operand)),(∀ p∈ps,e p.2=c p.2)→zyw pl e ps=zyw pl c ps
 | [],_=>rfl
 | (i,x) :: ps,h=>by
  have h1:e x=c x:=h (i,x) (by simp)
  simp only[zyw,h1,zbcc ps fun p hp=>h p (by simp[hp])]
theorem zy0 {size:Nat} {e c:Operand→V}:∀ (ps:List (Nat × Operand)),(∀ p∈ps,e p.2=c p.2)→zm6 size e ps=zm6 size c ps
 | [],_=>rfl
 | (i,x) :: ps,h=>by
  have h1:e x=c x:=h (i,x) (by simp)
  simp only[zm6,h1,zy0 ps fun p hp=>h p (by simp[hp])]
theorem zbp4 {e c:Operand→V} (b:Builtin) (args:List Operand) (ts:List TypeId) (h:∀ z∈args,e z=c z):zbl4 P e b args ts=zbl4 P c b args ts:=by
 unfold zbl4
 split <;> simp_all
theorem zbp5 {e c:Operand→V} (b:Builtin) (args:List Operand) (ts:List TypeId) (h:∀ z∈args,e z=c z):zbl5 P e b args ts=zbl5 P c b args ts:=by
 unfold zbl5
 split <;> simp_all
theorem zbto {e c:Operand→V} (b:Builtin) (args:List Operand) (ts:List TypeId) (h:∀ z∈args,e z=c z):actB P e b args ts=actB P c b args ts:=by
 unfold actB
 split <;> simp_all
theorem zbeq {parts:Array (Nat × Operand)} {p:Nat × Operand} (hp:p∈parts.toList):p.2∈(parts.toList.map (·.2)).toArray:=by
 simp only[List.mem_toArray,List.mem_map]
 exact⟨p,hp,rfl⟩
theorem zbh1 {e c:Operand→V} (x:Option Operand) (h:∀ z∈x.toArray,e z=c z):optO e x=optO c x:=by
 cases x with
 | none=>rfl
 | some x=>simp only[optO];rw[h x (by simp)]
theorem zbwr {e c:Operand→V} (neg:Bool) (t:TypeId) (x y:Operand) (hx:e x=c x) (hy:e y=c y):eqM P neg t x y e=eqM P neg t x y c:=by
 simp only[eqM,hx,hy]
theorem zbf2 {e c:Operand→V} (op:Op) (h:∀ z∈op.operands,e z=c z):z2s P e op=z2s P c op:=by
 cases op <;> simp only[Op.operands] at h <;> simp only[z2s]
 case move x=>rw[h x (by simp)]
 case assign x=>rw[h x (by simp)]
 case pick x y z=>rw[h x (by simp),h y (by simp),h z (by simp)]
 case build t parts =>
  have h1:∀ pl,zyw pl e parts.toList=zyw pl c parts.toList:=fun pl=>zbcc parts.toList fun p hp=>h p.2 (zbeq hp)
  have h2:∀ k,zm6 k e parts.toList=zm6 k c parts.toList:=fun k=>zy0 parts.toList fun p hp=>h p.2 (zbeq hp)
  simp only[h1,h2]
 case nilCheck x=>rw[h x (by simp)]
 case binOp op t x y yt =>
  have hx:=h x (by simp);have hy:=h y (by simp)
  cases op <;> simp only[hx,hy,zbwr _ t x y hx hy]
 case unOp op t x=>rw[h x (by simp)]
 case convert s d x=>rw[h x (by simp)]
 case makeInterface t x=>rw[h x (by simp)]
 case typeAssert x t t' ok=>rw[h x (by simp)]
 case makeFunc fn first captured =>
  rw[Array.map_congr_left (g:=c) fun x hx=>h x (by simp[hx]),Array.map_congr_left (xs:=captured) (g:=c) fun x hx=>h x (by simp[hx])]
 case slice t x lo hi mx =>
  have hx:=h x (by simp)
  have h1:=zbh1 (e:=e) (c:=c) lo fun z hz=>h z (by simp[hz])
  have h2:=zbh1 (e:=e) (c:=c) hi fun z hz=>h z (by simp[hz])
  cases mx <;> simp only[hx,h1,h2]
 case fieldAddr s x f=>rw[h x (by simp)]
 case field t x f=>rw[h x (by simp)]
 case indexAddr t x i=>rw[h x (by simp),h i (by simp)]
 case index t x i=>rw[h x (by simp),h i (by simp)]
 case extract t i=>rw[h t (by simp)]
 case call cl =>
  obtain⟨callee,args,argTypes⟩:=cl
  cases callee <;> simp only
  exact zbp4 _ _ _ fun z hz=>h z (by simpa[Call.operands] using hz)
theorem zbp6 {e c:Operand→V} (op:Op) (h:∀ z∈op.operands,e z=c z):zbfw P e op=zbfw P c op:=by
 cases op <;> simp only[Op.operands] at h <;> simp only[zbfw]
 case load t x=>rw[h x (by simp)]
 case convert s d x=>rw[h x (by simp)]
 case lookup t x i ok=>rw[h x (by simp),h i (by simp)]
 case call cl =>
  obtain⟨callee,args,argTypes⟩:=cl
  cases callee <;> simp only
  exact zbp5 _ _ _ fun z hz=>h z (by simpa[Call.operands] using hz)
theorem zbh2 {e c:Operand→V} (op:Op) (h:∀ z∈op.operands,e z=c z):actM P e op=actM P c op:=by
 cases op <;> simp only[Op.operands] at h <;> simp only[actM]
 case box t x=>rw[h x (by simp)]
 case buildSlice t len parts =>
  have h2:∀ k,zm6 k e parts.toList=zm6 k c parts.toList:=fun k=>zy0 parts.toList fun p hp=>h p.2 (zbeq hp)
  simp only[h2]
 case insert t x y z=>rw[h x (by simp),h y (by simp),h z (by simp)]
 case store t x y=>rw[h x (by simp),h y (by simp)]
 case convert s d x=>rw[h x (by simp)]
 case makeMap t r=>cases r with
  | none=>rfl
  | some x=>simp only;rw[h x (by simp)]
 case makeSlice t x y=>rw[h x (by simp),h y (by simp)]
 case mapUpdate t x y z=>rw[h x (by simp),h y (by simp),h z (by simp)]
 case call cl =>
  obtain⟨callee,args,argTypes⟩:=cl
  cases callee <;> simp only
  exact zbto _ _ _ fun z hz=>h z (by simpa[Call.operands] using hz)
theorem zbmg {en en':Env} (z:Operand) (h:∀ t,z = .tmp t→en t=en' t):evO P en z=evO P en' z:=by
 cases z <;> simp only[evO]
 exact h _ rfl
theorem z1f {en en':Env}:∀ l:List Operand,(∀ z∈l,evO P en z=evO P en' z)→zbad P en l=zbad P en' l
 | [],_=>rfl
 | x :: xs,h=>by simp only[zbad];rw[h x (by simp),z1f xs fun z hz=>h z (by simp[hz])]
theorem zbh3 {o:Oper} {z:Operand} (hz:z∈o.op.operands) {t:Nat} (ht:z = .tmp t):t∈zbhi o:=by
 simp only[zbhi,List.mem_filterMap]
 exact⟨z,by simpa using hz,by rw[ht]⟩
theorem zbf3 {en en':Env} (o:Oper) (h:∀ t∈zbhi o,en t=en' t):zum P σ en o.op=zum P σ en' o.op:=by
 have hz:∀ z∈o.op.operands,evO P en z=evO P en' z:=fun z hz=>zbmg z fun t ht=>h t (zbh3 hz ht)
 unfold zum
 cases cls P o.op with
 | mv=>simp only;rw[zbf2 o.op hz]
 | pure=>simp only;rw[zbf2 o.op hz]
 | read=>simp only;rw[zbp6 o.op hz]
 | act=>simp only;rw[zbh2 o.op hz]
 | call =>
  simp only
  obtain⟨dst,op,ty,pos,after,guard⟩:=o
  cases op <;> simp only
  rename_i cl
  obtain⟨callee,args,argTypes⟩:=cl
  cases callee <;> simp only
  ·rename_i f
   have h1:=hz f (by simp[Op.operands,Call.operands])
   rw[h1,z1f args.toList fun z hz2=>hz z (by simp only[Op.operands,Call.operands];simp at hz2;simp[hz2])]
  ·rename_i f name
   have h1:=hz f (by simp[Op.operands,Call.operands])
   rw[h1,z1f args.toList fun z hz2=>hz z (by simp only[Op.operands,Call.operands];simp at hz2;simp[hz2])]
theorem zbws {ops:Array Oper} {en en':Env} (o:Oper) (h:∀ t∈zbfx ops o,en t=en' t):gdM P σ ops o en=gdM P σ ops o en':=by
 unfold gdM
 unfold zbfx at h
 cases hg:zc6 ops o with
 | none=>rfl
 | some g =>
  cases g with
  | none=>simp only[hg] at h ⊢;exact zbf3 o h
  | some dw =>
   obtain⟨d,want⟩:=dw
   simp only[hg] at h ⊢
   rw[zbf3 o fun t ht=>h t (by simp[ht]),h d (by simp)]
theorem zbwt {α:Type} {o:Option α} {r:α} {H':Heap} (h:za o H=some (r,H')):H'=H∧∀ K:Heap,za o K=some (r,K):=by
 unfold za at h ⊢
 cases o with
 | none=>cases h
 | some v=>cases h;exact⟨rfl,fun _=>rfl⟩
theorem zb1j {g:V} {want:Bool} {m:M V} {r:V} {H':Heap} (hm:∀ r H',m H=some (r,H')→H'=H∧∀ K:Heap,m K=some (r,K)) (h:gd g want m H=some (r,H')):H'=H∧∀ K:Heap,gd g want m K=some (r,K):=by
 rcases zbca h with⟨b,rfl,hq⟩ | ⟨hb,ht,rfl,rfl⟩
 ·rcases hq with⟨rfl,h1⟩ | ⟨hne,rfl,rfl⟩
  ·obtain⟨h2,h3⟩:=hm _ _ h1
   exact⟨h2,fun K=>by simp only[gd,beq_self_eq_true,if_true];exact h3 K⟩
  ·exact⟨rfl,fun K=>by simp only[gd];rw[if_neg (by simpa using hne)];rfl⟩
 ·refine⟨rfl,fun K=>?_⟩
  cases g <;> simp only[gd] at h ⊢ <;> first | rfl | exact absurd rfl (hb _) | skip
  split
  ·rename_i hv;exact absurd (by simpa using hv) (fun q=>ht (by rw[q]))
  ·rfl
theorem zber {ops:Array Oper} {o:Oper} (hc:cls P o.op = .mv∨cls P o.op = .pure) {en:Env} {r:V} {H':Heap} (h:gdM P σ ops o en H=some (r,H')):H'=H∧∀ K:Heap,gdM P σ ops o en K=some (r,K):=by
 have hop:∀ (r:V) (H':Heap),zum P σ en o.op H=some (r,H')→H'=H∧∀ K:Heap,zum P σ en o.op K=some (r,K):=by
  intro r H' hq
  unfold zum at hq ⊢
  rcases hc with hc | hc <;> rw[hc] at hq ⊢ <;> exact zbwt hq
 unfold gdM at h ⊢
 cases hg:zc6 ops o with
 | none=>rw[hg] at h;exact (z6 h).elim
 | some g =>
  cases g with
  | none=>rw[hg] at h;exact hop _ _ h
  | some dw=>obtain⟨d,want⟩:=dw;rw[hg] at h;exact zb1j hop h
theorem zbtp {e:Operand→V} {op:Op} {r:V} {H':Heap} (h:zbfw P e op H=some (r,H')):H'=H:=by
 cases op <;> simp only[zbfw] at h <;> first | exact (z6 h).elim | skip
 case load t a =>
  cases hk:tk P t with
  | none=>simp only[hk] at h;exact (z6 h).elim
  | some k =>
   cases k with
   | one =>
    simp only[hk,zz] at h
    split at h
    ·split at h
     ·cases h;rfl
     ·cases h
    ·cases h
   | agg n =>
    simp only[hk,ldn] at h
    split at h
    ·split at h
     ·cases h;rfl
     ·cases h
    ·cases h
 case convert s d x =>
  generalize P.underlying s=su at h
  generalize P.underlying d=du at h
  split at h
  all_goals first | exact (z6 h).elim | skip
  rename_i el
  generalize P.underlying el=eu at h
  split at h
  all_goals first | exact (z6 h).elim | skip
  unfold b2s at h
  split at h
  ·cases h;rfl
  ·split at h
   ·split at h
    ·cases h;rfl
    ·cases h
   ·cases h
  ·cases h
 case lookup t m k ok =>
  generalize P.underlying t=su at h
  split at h
  all_goals first | exact (z6 h).elim | skip
  rename_i kt et
  generalize zf5 P et=z at h
  generalize z8c P kt=kk at h
  split at h
  all_goals first | exact (z6 h).elim | skip
  unfold AM.lookup at h
  split at h
  ·split at h
   ·split at h
    ·split at h
     ·cases h;rfl
     ·cases h
    ·cases h;rfl
    ·cases h
   ·cases h
  ·cases h
 case call cl =>
  obtain⟨callee,args,argTypes⟩:=cl
  cases callee <;> simp only at h <;> first | exact (z6 h).elim | skip
  simp only[zbl5] at h
  generalize args.toList=al at h
  generalize argTypes.toList=tl at h
  split at h
  all_goals first | exact (z6 h).elim | skip
  rename_i x t
  generalize P.underlying t=su at h
  split at h
  all_goals first | exact (z6 h).elim | skip
  unfold lenM at h
  split at h
  ·cases h;rfl
  ·cases h
theorem zbp7 {ops:Array Oper} {o:Oper} (hc:cls P o.op = .read) {en:Env} {r:V} {H':Heap} (h:gdM P σ ops o en H=some (r,H')):H'=H:=by
 have hop:∀ (r:V) (H':Heap),zum P σ en o.op H=some (r,H')→H'=H:=by
  intro r H' hq
  unfold zum at hq
  rw[hc] at hq
  exact zbtp hq
 unfold gdM at h
 cases hg:zc6 ops o with
 | none=>rw[hg] at h;exact (z6 h).elim
 | some g =>
  cases g with
  | none=>rw[hg] at h;exact hop _ _ h
  | some dw =>
   obtain⟨d,want⟩:=dw
   rw[hg] at h
   rcases zbca h with⟨b,_,hq⟩ | ⟨_,_,_,hq⟩
   ·rcases hq with⟨_,h1⟩ | ⟨_,_,h1⟩
    ·exact hop _ _ h1
    ·exact h1
   ·exact hq
theorem zbyx (hG:P.globals.size≤N) (h:Rel N w₀ ρ H w) {en:Env} {a:Act} (he:EnvRel n ρ en a) {ops:Array Oper} {o:Oper} (hc:cls P o.op = .mv∨cls P o.op = .pure∨cls P o.op = .read) {r:V} {H':Heap} (hl:gdM P σ ops o en H=some (r,H'))
  {K:Act→World→Prop} {Q:Exit→Act→World→Prop} (hk:∀ r',VRel ρ r r'→K (a.put o.dst r') w):if Region.wanted o (yielded ops a.tmps) then o.wp P a w K Q else K (a.put o.dst undef) w:=by
 have hr:=z7v hG h he
 have hop:∀ (r:V) (H':Heap),zum P σ en o.op H=some (r,H')→(∀ r',VRel ρ r r'→K (a.put o.dst r') w)→o.wp P a w K Q:=by
  intro r H' hq hk
  unfold Oper.wp
  unfold zum at hq
  have hpure:za (z2s P (evO P en) o.op) H=some (r,H')→o.upon P a K Q ((execOp a.eval o).run P w):=by
   intro hl
   unfold za at hl
   cases hp:z2s P (evO P en) o.op with
   | none=>rw[hp] at hl;cases hl
   | some v =>
    rw[hp] at hl;cases hl
    obtain⟨r',h1,h2⟩:=zbhr (P:=P) hr (fun _=>rfl) o hp
    rw[h2 w]
    exact hk r' h1
  rcases hc with hc | hc | hc <;> rw[hc] at hq
  ·exact hpure hq
  ·exact hpure hq
  ·obtain⟨rfl,r',h1,h2⟩:=zbhu (P:=P) h hr o hq
   rw[h2]
   exact hk r' h1
 unfold gdM at hl
 cases hgd:o.guard with
 | none =>
  have:zc6 ops o=some none:=by simp[zc6,hgd]
  rw[this] at hl
  simp only[Region.wanted,hgd,if_true]
  exact hop _ _ hl hk
 | some jw =>
  obtain⟨j,want⟩:=jw
  cases hj:ops[j]? with
  | none=>simp only[zc6,hgd,hj] at hl;exact (z6 hl).elim
  | some oj =>
   cases hd:oj.dst with
   | none=>simp only[zc6,hgd,hj,hd] at hl;exact (z6 hl).elim
   | some d =>
    have:zc6 ops o=some (some (d,want)):=by simp[zc6,hgd,hj,hd]
    rw[this] at hl
    simp only at hl
    have hy:=zbh0 (tmps:=a.tmps) hj hd
    have hs:=he.slot d
    simp only[Region.wanted,hgd]
    rcases zbca hl with⟨b,hb,hq⟩ | ⟨hb,ht,e1,e2⟩
    ·rw[hb] at hs
     rw[hy,hs.bool_inv]
     rcases hq with⟨hbw,hm⟩ | ⟨hbw,e1,e2⟩
     ·rw[if_pos (by simp[hbw])]
      exact hop _ _ hm hk
     ·rw[if_neg (by simp[hbw])]
      subst e1;exact hk undef .skip
    ·have hn:∀ b,a.tmps.getD d undef ≠ .bool b:=fun b hb2=>by
      rw[hb2] at hs
      rcases zbu8 hs with q | q
      ·exact hb b q
      ·exact ht q
     have hy2:yielded ops a.tmps j=none:=by
      rw[hy]
      split
      ·rename_i b hb;exact absurd hb (hn b)
      ·rfl
     rw[hy2,if_neg (by simp)]
     subst e1;exact hk undef .skip
end Go.AM

/- Regions whose order is drawn: the run in one order, and what it says of all. -/
namespace Go.AM
open Go.RowKit (Below)
variable {P:Program} {N:Nat} {w₀:World} {ρ:Ren} {H:Heap} {w:World} {σ:zx} {n:Nat} {ops:Array Oper} {fl:List Nat} {base:Nat}
def zbnn (P:Program) (σ:zx) (ops:Array Oper) (base:Nat) (kd:KD) (o:Oper) (e:Env) (H:Heap) (v:V) (H':Heap):Prop:=match kd with
 | .float j=>o.guard=none∧isMk P o.op=true∧∃ x v0,actM P (evO P e) o.op Heap.none0=some (v0,Heap.one x)∧v=zun (base + j) v0∧H.get (base + j)=none∧base + j < H.next∧H'=H.set (base + j) (some x)
 | _=>gdM P σ ops o e H=some (v,H')
inductive Run (P:Program) (σ:zx) (n:Nat) (ops:Array Oper) (fl:List Nat) (base:Nat):List Nat→Env→Heap→List Tr→Env→Heap→Prop where
 | nil (e:Env) (H:Heap):Run P σ n ops fl base [] e H [] e H
 | cons {i:Nat} {rest:List Nat} {e:Env} {H:Heap} {o:Oper} {v:V} {H':Heap} {tr:List Tr} {ef:Env} {Hf:Heap}:ops[i]? = some o→zbnn P σ ops base (zd2 P fl i o) o e H v H' →
   zvz (zd2 P fl i o) H H' (kept fl base rest)=true→Run P σ n ops fl base rest (e.put n o.dst v) H' tr ef Hf→Run P σ n ops fl base (i :: rest) e H (⟨i,o,zd2 P fl i o,e,H,v,H'⟩ :: tr) ef Hf
theorem zbyy {o:Oper} {x:Operand} (h:z08 o=some x) (e:Env) (H:Heap):gdM P σ ops o e H=some (evO P e x,H):=by
 unfold z08 at h
 split at h
 ·rename_i y hg ho;cases h
  simp[gdM,zc6,hg,zum,ho,cls,z2s,za]
 ·rename_i y hg ho;cases h
  simp[gdM,zc6,hg,zum,ho,cls,z2s,za]
 ·cases h
theorem zbyz {kd:KD} {o:Oper} {e:Env} {v:V} {H':Heap} (h:zbu1 P σ ops base kd o e H=some (v,H')):zbnn P σ ops base kd o e H v H':=by
 cases kd <;> simp only[zbu1] at h <;> try exact h
 rename_i j
 cases hg:o.guard with
 | some g=>rw[hg] at h;exact (z6 h).elim
 | none =>
  rw[hg] at h
  simp only at h
  cases hmk:isMk P o.op with
  | false=>rw[hmk] at h;simp only[cond_false] at h;exact (z6 h).elim
  | true =>
   rw[hmk] at h
   simp only[cond_true,flt] at h
   split at h
   ·rename_i v0 K hx
    split at h
    ·rename_i x hK
     rw[Heap.one?_inv hK] at hx
     split at h
     ·rename_i hn
      cases hb:Nat.blt (base + j) H.next with
      | false=>rw[hb] at h;cases h
      | true=>rw[hb] at h;cases h;exact⟨hg,hmk,x,v0,hx,rfl,hn,Nat.blt_eq.mp hb,rfl⟩
     ·cases h
    ·cases h
   ·cases h
theorem zbp8 {R:Type} {k:Env→List Tr→M R} {r:R} {Hr:Heap}:∀ (l:List Nat) (e:Env) (H:Heap) (tr0:List Tr),runD P σ n ops fl base l e tr0 k H=some (r,Hr) →
  ∃ tr ef Hf,Run P σ n ops fl base l e H tr ef Hf∧k ef (tr0 ++ tr) Hf=some (r,Hr)
 | [],e,H,tr0,h=>⟨[],e,H,.nil e H,by simpa[runD] using h⟩
 | i :: rest,e,H,tr0,h=>by
  simp only[runD] at h
  cases ho:ops[i]? with
  | none=>rw[ho] at h;exact (z6 h).elim
  | some o =>
   rw[ho] at h
   simp only at h
   have fin:∀ v H',zbnn P σ ops base (zd2 P fl i o) o e H v H'→zvz (zd2 P fl i o) H H' (kept fl base rest)=true→runD P σ n ops fl base rest (e.put n o.dst v) (tr0 ++ [⟨i,o,zd2 P fl i o,e,H,v,H'⟩]) k H'=some (r,Hr) →
     ∃ tr ef Hf,Run P σ n ops fl base (i :: rest) e H tr ef Hf∧k ef (tr0 ++ tr) Hf=some (r,Hr):=by
    intro v H' h1 h2 h3
    obtain⟨tr,ef,Hf,g1,g2⟩:=zbp8 rest _ H' _ h3
    exact⟨_,ef,Hf,.cons ho h1 h2 g1,by simpa using g2⟩
   have gen:(match zbu1 P σ ops base (zd2 P fl i o) o e H with
     | some (v,H')=>zdj (zvz (zd2 P fl i o) H H' (kept fl base rest)) (runD P σ n ops fl base rest (e.put n o.dst v) (tr0 ++ [⟨i,o,zd2 P fl i o,e,H,v,H'⟩]) k) H'
     | none=>none)=some (r,Hr)→∃ tr ef Hf,Run P σ n ops fl base (i :: rest) e H tr ef Hf∧k ef (tr0 ++ tr) Hf=some (r,Hr):=by
    intro h
    split at h
    ·rename_i v H' hst
     simp only[zdj] at h
     split at h
     ·rename_i hce
      exact fin v H' (zbyz hst) hce h
     ·cases h
    ·cases h
   cases hp:z08 o with
   | none=>rw[hp] at h;exact gen h
   | some x =>
    rw[hp] at h
    cases hk:zd2 P fl i o with
    | quiet =>
     rw[hk] at h
     have hfin:=fin (evO P e x) H (by rw[hk];exact zbyy hp e H) (by rw[hk];rfl)
     rw[hk] at hfin
     exact hfin h
    | read=>rw[hk] at h gen;exact gen h
    | chain=>rw[hk] at h gen;exact gen h
    | float j=>rw[hk] at h gen;exact gen h
def z4e (n:Nat):List Tr→Env→Env
 | [],e=>e
 | s :: r,e=>z4e n r (e.put n s.o.dst s.v)
theorem Run.split {perm:List Nat} {e ef:Env} {Hs Hf:Heap} {X:List Tr} {s:Tr} {Y:List Tr}:∀ {tr:List Tr},Run P σ n ops fl base perm e Hs tr ef Hf→tr=X ++ s :: Y →
  s.env=z4e n X e∧zbnn P σ ops base s.kd s.o s.env s.H s.v s.H'∧ops[s.i]? = some s.o∧s.kd=zd2 P fl s.i s.o∧zvz s.kd s.H s.H' (kept fl base (Y.map (·.i)))=true:=by
 intro tr h
 induction h generalizing X with
 | nil=>intro he;cases X <;> simp at he
 | @cons i rest e H o v H' tr ef Hf h1 h2 h3 h4 ih =>
  intro he
  have hmap:∀ {p e H t ef Hf},Run P σ n ops fl base p e H t ef Hf→t.map (·.i)=p:=by
   intro p e H t ef Hf hr
   induction hr with
   | nil=>rfl
   | cons _ _ _ _ ih=>simp[ih]
  cases X with
  | nil =>
   simp only[List.nil_append,List.cons.injEq] at he
   obtain⟨rfl,rfl⟩:=he
   exact⟨rfl,h2,h1,rfl,by rw[hmap h4];exact h3⟩
  | cons x X =>
   simp only[List.cons_append,List.cons.injEq] at he
   obtain⟨rfl,rfl⟩:=he
   obtain⟨g1,g2,g3,g4,g5⟩:=ih rfl
   exact⟨by rw[g1];rfl,g2,g3,g4,g5⟩
theorem Run.map_i {p:List Nat} {e ef:Env} {Hs Hf:Heap} {t:List Tr} (hr:Run P σ n ops fl base p e Hs t ef Hf):t.map (·.i)=p:=by
 induction hr with
 | nil=>rfl
 | cons _ _ _ _ ih=>simp[ih]
theorem Run.env_end {p:List Nat} {e ef:Env} {Hs Hf:Heap} {t:List Tr} (hr:Run P σ n ops fl base p e Hs t ef Hf):ef=z4e n t e:=by
 induction hr with
 | nil=>rfl
 | cons _ _ _ _ ih=>exact ih
def cnt:List Tr→Nat
 | []=>0
 | s :: r=>(if s.kd.isChain then 1 else 0) + cnt r
def zbv:Nat→Heap→List Tr→Heap
 | 0,H,_=>H
 | _ + 1,H,[]=>H
 | k + 1,H,s :: r=>if s.kd.isChain then zbv k s.H' r else zbv (k + 1) H r
def after:Nat→List Tr→List Tr
 | 0,t=>t
 | _ + 1,[]=>[]
 | k + 1,s :: r=>if s.kd.isChain then after k r else after (k + 1) r
theorem zbh4:∀ (t:List Tr) (H:Heap) (k:Nat),k≤cnt t→(H :: z7r t)[k]? = some (zbv k H t)
 | t,H,0,_=>by simp[zbv]
 | [],H,k + 1,h=>by simp[cnt] at h
 | s :: r,H,k + 1,h=>by
  simp only[cnt] at h
  simp only[z7r,zbv]
  cases hc:s.kd.isChain with
  | true=>simp only[hc,if_true] at h ⊢;simpa using zbh4 r s.H' k (by omega)
  | false=>simp only[hc] at h ⊢;simpa using zbh4 r H (k + 1) (by simpa using h)
theorem zbh5 (X Y:List Tr):cnt (X ++ Y)=cnt X + cnt Y:=by
 induction X with
 | nil=>simp[cnt]
 | cons s X ih=>simp[cnt,ih];omega
theorem z1g:∀ (X:List Tr) (k:Nat) (H:Heap) (Y:List Tr),zbv (cnt X + (k + 1)) H (X ++ Y)=zbv (k + 1) (zbv (cnt X) H X) Y
 | [],k,H,Y=>by simp[cnt,zbv]
 | s :: X,k,H,Y=>by
  simp only[cnt,List.cons_append]
  cases hc:s.kd.isChain with
  | true =>
   simp only[if_true]
   rw[show 1 + cnt X + (k + 1)=(cnt X + (k + 1)) + 1 by omega,show 1 + cnt X=cnt X + 1 by omega]
   simp only[zbv,hc,if_true]
   exact z1g X k s.H' Y
  | false =>
   simp only[Bool.false_eq_true,if_false,Nat.zero_add]
   rw[show cnt X + (k + 1)=(cnt X + k) + 1 by omega]
   have h1:zbv (cnt X + k + 1) H (s :: (X ++ Y))=zbv (cnt X + k + 1) H (X ++ Y):=by simp[zbv,hc]
   have h2:zbv (cnt X) H (s :: X)=zbv (cnt X) H X:=by
    cases hx:cnt X with
    | zero=>simp[zbv]
    | succ m=>simp[zbv,hc]
   rw[h1,h2]
   exact z1g X k H Y
theorem z1h:∀ (X:List Tr) (k:Nat) (Y:List Tr),after (cnt X + (k + 1)) (X ++ Y)=after (k + 1) Y
 | [],k,Y=>by simp[cnt]
 | s :: X,k,Y=>by
  simp only[cnt,List.cons_append]
  cases hc:s.kd.isChain with
  | true =>
   simp only[if_true]
   rw[show 1 + cnt X + (k + 1)=(cnt X + (k + 1)) + 1 by omega]
   simp only[after,hc,if_true]
   exact z1h X k Y
  | false =>
   simp only[Bool.false_eq_true,if_false,Nat.zero_add]
   rw[show cnt X + (k + 1)=(cnt X + k) + 1 by omega]
   simp only[after,hc,Bool.false_eq_true,if_false]
   exact z1h X k Y
theorem zbp9:∀ {perm:List Nat} {e ef:Env} {Hs Hf:Heap} {tr:List Tr},Run P σ n ops fl base perm e Hs tr ef Hf→∀ (fresh:Bool) (V0:Heap),z35 P ops fl fresh perm=true→(fresh=true→Hs=V0) →
  ∀ (X:List Tr) (s:Tr) (Y:List Tr),tr=X ++ s :: Y→s.kd.isRead=true→s.H=zbv (cnt X) V0 tr:=by
 intro perm e ef Hs Hf tr h
 induction h with
 | nil=>intro _ _ _ _ X s Y he;cases X <;> simp at he
 | @cons i rest e H o v H' tr ef Hf h1 h2 h3 h4 ih =>
  intro fresh V0 hok hf X s Y he hs
  simp only[z35,h1] at hok
  cases X with
  | nil =>
   simp only[List.nil_append,List.cons.injEq] at he
   obtain⟨rfl,rfl⟩:=he
   simp only at hs
   cases hk:zd2 P fl i o <;> rw[hk] at hs hok <;> simp only[KD.isRead] at hs <;> first | (cases hs;done) | skip
   simp only[Bool.and_eq_true] at hok
   simp only[cnt,zbv]
   exact hf hok.1
  | cons x X =>
   simp only[List.cons_append,List.cons.injEq] at he
   obtain⟨rfl,rfl⟩:=he
   cases hk:zd2 P fl i o <;> rw[hk] at hok h2 <;> simp only at hok
   ·-- quiet
    have hcl:cls P o.op = .mv∨cls P o.op = .pure:=by
     unfold zd2 at hk;split at hk
     ·cases hk
     ·split at hk <;> first | (left;assumption) | (right;assumption) | cases hk
    obtain⟨rfl,_⟩:=zber hcl h2
    have:=ih fresh V0 hok hf X s Y rfl hs
    rw[this]
    simp only[cnt,KD.isChain,Bool.false_eq_true,if_false,Nat.zero_add]
    cases cnt X with
    | zero=>simp[zbv]
    | succ m=>simp[zbv,KD.isChain]
   ·-- read
    have hcl:cls P o.op = .read:=by
     unfold zd2 at hk;split at hk
     ·cases hk
     ·split at hk <;> first | assumption | cases hk
    have:=zbp7 hcl h2;subst this
    simp only[Bool.and_eq_true] at hok
    have:=ih fresh V0 hok.2 hf X s Y rfl hs
    rw[this]
    simp only[cnt,KD.isChain,Bool.false_eq_true,if_false,Nat.zero_add]
    cases cnt X with
    | zero=>simp[zbv]
    | succ m=>simp[zbv,KD.isChain]
   ·-- chain
    have:=ih true H' hok (fun _=>rfl) X s Y rfl hs
    rw[this]
    simp only[cnt,KD.isChain,if_true]
    rw[show 1 + cnt X=cnt X + 1 by omega]
    simp[zbv,KD.isChain]
   ·-- float
    have:=ih false V0 hok (fun q=>by cases q) X s Y rfl hs
    rw[this]
    simp only[cnt,KD.isChain,Bool.false_eq_true,if_false,Nat.zero_add]
    cases cnt X with
    | zero=>simp[zbv]
    | succ m=>simp[zbv,KD.isChain]
theorem zb1k {a b:V} (h:vEq.vEq1 a b=true):a=b:=by
 cases a <;> cases b <;> simp_all [vEq.vEq1]
theorem zbno:∀ {a b:List V},vEq.vEqs a b=true→a=b
 | [],[],_=>rfl
 | [],_ :: _,h=>by simp[vEq.vEqs] at h
 | _ :: _,[],h=>by simp[vEq.vEqs] at h
 | x :: xs,y :: ys,h=>by
  simp only[vEq.vEqs,Bool.and_eq_true] at h
  rw[zb1k h.1,zbno h.2]
theorem zb4y {a b:V} (h:vEq a b=true):a=b:=by
 cases a <;> cases b <;> simp only[vEq] at h <;> first | (cases h;done) | skip
 case chan.chan a b=>cases a <;> cases b <;> simp_all
 case agg.agg a b=>have:=zbno h;rw[Array.toList_inj.mp this]
 case tuple.tuple a b=>have:=zbno h;rw[Array.toList_inj.mp this]
 all_goals simp_all
theorem zby0 {m:M V} {H:Heap} {v:V} (h:chk m H v=true):∃ H',m H=some (v,H'):=by
 unfold chk at h
 split at h
 ·rename_i v' H' hm;rw[hm,zb4y h];exact⟨H',rfl⟩
 ·cases h
theorem zbcd {R:Type} {bf:Array Nat} {chain:List Nat} {s:Tr} {own:Nat} {m:M R} {r:R} {Ha Hb:Heap}:∀ (l:List Heap) (k:Nat),z7s P σ ops bf chain s own k l m Ha=some (r,Hb) →
  m Ha=some (r,Hb)∧∀ j HH,l[j]? = some HH→k + j≠own→z09 bf chain s.i (k + j)=true→chk (gdM P σ ops s.o s.env) HH s.v=true
 | [],k,h=>⟨h,fun j HH hj=>by simp at hj⟩
 | H0 :: l,k,h=>by
  simp only[z7s] at h
  have key:(z7s P σ ops bf chain s own (k + 1) l m Ha=some (r,Hb))→(k≠own→z09 bf chain s.i k=true→chk (gdM P σ ops s.o s.env) H0 s.v=true) →
    m Ha=some (r,Hb)∧∀ j HH,(H0 :: l)[j]? = some HH→k + j≠own→z09 bf chain s.i (k + j)=true→chk (gdM P σ ops s.o s.env) HH s.v=true:=by
   intro h1 h2
   obtain⟨g1,g2⟩:=zbcd l (k + 1) h1
   refine⟨g1,fun j HH hj=>?_⟩
   cases j with
   | zero=>simp at hj;subst hj;exact h2
   | succ j=>intro a b;exact g2 j HH (by simpa using hj) (by omega) (by rw[show k + 1 + j=k + (j + 1) by omega];exact b)
  cases hc:(!Nat.beq k own && z09 bf chain s.i k) with
  | true =>
   rw[hc] at h
   simp only[cond_true,zdj] at h
   split at h
   ·rename_i hck;exact key h fun _ _=>hck
   ·cases h
  | false =>
   rw[hc] at h
   refine key h fun a b=>?_
   rw[b,zbme a] at hc
   simp at hc
theorem zx9 {R:Type} {bf:Array Nat} {chain:List Nat} {vers:List Heap} {m:M R} {r:R} {Ha Hb:Heap}:∀ (tr:List Tr) (own:Nat),zbei P σ ops bf chain vers own tr m Ha=some (r,Hb) →
  m Ha=some (r,Hb)∧∀ X s Y,tr=X ++ s :: Y→s.kd.isRead=true→∀ k HH,vers[k]? = some HH→k≠own + cnt X→z09 bf chain s.i k=true→chk (gdM P σ ops s.o s.env) HH s.v=true
 | [],own,h=>⟨h,fun X s Y he=>by cases X <;> simp at he⟩
 | s0 :: tr,own,h=>by
  simp only[zbei] at h
  cases hc:s0.kd.isChain with
  | true =>
   rw[hc] at h
   obtain⟨g1,g2⟩:=zx9 tr (own + 1) h
   refine⟨g1,fun X s Y he hs k HH hk hne hco=>?_⟩
   cases X with
   | nil=>simp at he;obtain⟨rfl,rfl⟩:=he;cases hkd:s0.kd <;> rw[hkd] at hs hc <;> simp[KD.isChain,KD.isRead] at hs hc
   | cons x X =>
    simp only[List.cons_append,List.cons.injEq] at he
    obtain⟨rfl,rfl⟩:=he
    exact g2 X s Y rfl hs k HH hk (by simp only[cnt,hc,if_true] at hne;omega) hco
  | false =>
   rw[hc] at h
   simp only[cond_false] at h
   cases hr:s0.kd.isRead with
   | true =>
    rw[hr] at h
    simp only[cond_true] at h
    obtain⟨h1,h2⟩:=zbcd vers 0 h
    obtain⟨g1,g2⟩:=zx9 tr own h1
    refine⟨g1,fun X s Y he hs k HH hk hne hco=>?_⟩
    cases X with
    | nil =>
     simp at he;obtain⟨rfl,rfl⟩:=he
     exact h2 k HH hk (by simpa[cnt] using hne) (by simpa using hco)
    | cons x X =>
     simp only[List.cons_append,List.cons.injEq] at he
     obtain⟨rfl,rfl⟩:=he
     exact g2 X s Y rfl hs k HH hk (by simpa[cnt,hc] using hne) hco
   | false =>
    rw[hr] at h
    obtain⟨g1,g2⟩:=zx9 tr own h
    refine⟨g1,fun X s Y he hs k HH hk hne hco=>?_⟩
    cases X with
    | nil=>simp at he;obtain⟨rfl,rfl⟩:=he;rw[hs] at hr;cases hr
    | cons x X =>
     simp only[List.cons_append,List.cons.injEq] at he
     obtain⟨rfl,rfl⟩:=he
     exact g2 X s Y rfl hs k HH hk (by simpa[cnt,hc] using hne) hco
end Go.AM

/- Regions whose order is drawn: blocks that are laid early, orders, slots. -/
namespace Go.AM
open Go.RowKit (Below)
variable {P:Program} {N:Nat} {w₀:World} {ρ:Ren} {H:Heap} {w:World} {σ:zx} {n:Nat} {ops:Array Oper} {fl:List Nat} {base:Nat}
theorem Heap.get_set_ne (H:Heap) (b:Nat) (x:Option Blk) {c:Nat} (h:c≠b):(H.set b x).get c=H.get c:=by
 show (H.tree.set b x).get c=_
 rw[BT.get_set b x c H.ok,if_neg (fun q=>h q.1)]
 rfl
def zbx (M:Nat→Bool) (base:Nat):List Tr→Heap→Heap
 | [],G=>G
 | s :: B,G=>match s.kd with
  | .float j=>if M s.i then zbx M base B (G.set (base + j) (s.H'.get (base + j))) else zbx M base B G
  | _=>zbx M base B G
theorem zfl (M:Nat→Bool):∀ (B:List Tr) (G:Heap),(zbx M base B G).next=G.next
 | [],G=>rfl
 | s :: B,G=>by
  unfold zbx
  cases s.kd <;> simp only <;> try exact zfl M B G
  split
  ·rw[zfl M B,Heap.next_set]
  ·exact zfl M B G
theorem zm7 (M:Nat→Bool):∀ (A B:List Tr) (G:Heap),zbx M base (A ++ B) G=zbx M base B (zbx M base A G)
 | [],B,G=>rfl
 | s :: A,B,G=>by
  simp only[List.cons_append,zbx]
  cases s.kd <;> simp only <;> try exact zm7 M A B G
  split <;> exact zm7 M A B _
theorem z4f (M:Nat→Bool) {b:Nat}:∀ (B:List Tr) (G:Heap),(∀ s∈B,∀ j,s.kd = .float j→M s.i=true→base + j≠b)→(zbx M base B G).get b=G.get b
 | [],G,_=>rfl
 | s :: B,G,h=>by
  unfold zbx
  have hB:=fun G=>z4f M B G fun s hs=>h s (by simp[hs])
  cases hk:s.kd <;> simp only <;> try exact hB G
  rename_i j
  split
  ·rename_i hm
   rw[hB,Heap.get_set_ne]
   exact fun e=>h s (by simp) j hk hm e.symm
  ·exact hB G
theorem zjs (M M':Nat→Bool):∀ (B:List Tr) (G:Heap),(∀ s∈B,∀ j,s.kd = .float j→M s.i=M' s.i)→zbx M base B G=zbx M' base B G
 | [],G,_=>rfl
 | s :: B,G,h=>by
  unfold zbx
  have hB:=fun G=>zjs M M' B G fun s hs=>h s (by simp[hs])
  cases hk:s.kd <;> simp only <;> try exact hB G
  rename_i j
  rw[h s (by simp) j hk]
  split <;> exact hB _
theorem zls (M:Nat→Bool):∀ (B:List Tr) (G G':Heap),(∀ s∈B,∀ j,s.kd = .float j→base + j < G.next∧base + j < G'.next)→∀ b,
  ((∃ s∈B,∃ j,s.kd = .float j∧M s.i=true∧base + j=b)∧(zbx M base B G).get b=(zbx M base B G').get b)∨((zbx M base B G).get b=G.get b∧(zbx M base B G').get b=G'.get b)
 | [],G,G',_,b => .inr ⟨rfl,rfl⟩
 | s :: B,G,G',h,b=>by
  unfold zbx
  have hB:=fun (G G':Heap) (e:G.next=G.next) h'=>zls M B G G' h' b
  have hrest:∀ (G1 G1':Heap),G1.next=G.next→G1'.next=G'.next→∀ s∈B,∀ j,s.kd = .float j→base + j < G1.next∧base + j < G1'.next:=by
   intro G1 G1' e1 e2 s hs j hj
   rw[e1,e2];exact h s (by simp[hs]) j hj
  have za:(((∃ s∈B,∃ j,s.kd = .float j∧M s.i=true∧base + j=b)∧(zbx M base B G).get b=(zbx M base B G').get b)∨((zbx M base B G).get b=G.get b∧(zbx M base B G').get b=G'.get b)) →
    (((∃ s'∈s :: B,∃ j,s'.kd = .float j∧M s'.i=true∧base + j=b)∧(zbx M base B G).get b=(zbx M base B G').get b)∨((zbx M base B G).get b=G.get b∧(zbx M base B G').get b=G'.get b)):=by
   rintro (⟨⟨s',hs',r⟩,q⟩ | q)
   ·exact .inl ⟨⟨s',by simp[hs'],r⟩,q⟩
   ·exact .inr q
  cases hk:s.kd <;> simp only <;> try exact za (zls M B G G' (hrest G G' rfl rfl) b)
  rename_i j
  split
  ·rename_i hm
   have hlt:=h s (by simp) j hk
   rcases zls M B (G.set (base + j) (s.H'.get (base + j))) (G'.set (base + j) (s.H'.get (base + j))) (hrest _ _ (Heap.next_set _ _ _) (Heap.next_set _ _ _)) b with⟨⟨s',hs',r⟩,q⟩ | ⟨q1,q2⟩
   ·exact .inl ⟨⟨s',by simp[hs'],r⟩,q⟩
   ·by_cases hb:b=base + j
    ·subst hb
     refine .inl ⟨⟨s,by simp,j,hk,hm,rfl⟩,?_⟩
     rw[q1,q2,Heap.get_set _ _ _ _ hlt.1,Heap.get_set _ _ _ _ hlt.2];simp
    ·rw[Heap.get_set_ne _ _ _ hb] at q1
     rw[Heap.get_set_ne _ _ _ hb] at q2
     exact .inr ⟨q1,q2⟩
  ·exact za (zls M B G G' (hrest G G' rfl rfl) b)
theorem Rel.congr {H':Heap} (h:Rel N w₀ ρ H w) (hn:H'.next=H.next) (hg:∀ b,H'.get b=H.get b):Rel N w₀ ρ H' w :=
 ⟨h.below,h.big,fun b hb=>h.dom b (by omega),h.base,fun b x hb=>h.blk b x (by rw[← hg];exact hb),fun b b' x x' L L' hb hb'=>h.inj b b' x x' L L' (by rw[← hg];exact hb) (by rw[← hg];exact hb')⟩
theorem Rel.shrink {H':Heap} (h:Rel N w₀ ρ H w) (hn:H'.next=H.next) (hg:∀ b x,H'.get b=some x→H.get b=some x):Rel N w₀ ρ H' w :=
 ⟨h.below,h.big,fun b hb=>h.dom b (by omega),h.base,fun b x hb=>h.blk b x (hg b x hb),fun b b' x x' L L' hb hb'=>h.inj b b' x x' L L' (hg _ _ hb) (hg _ _ hb')⟩
theorem Ext.congr {ρ':Ren} {K H':Heap} {w':World} (h:Ext ρ K w ρ' H w') (hn:H'.next=H.next) (hg:∀ b,H'.get b=H.get b):Ext ρ K w ρ' H' w' :=
 ⟨h.le,h.same,by rw[hn];exact h.next,h.apart,fun b x L hb=>h.old b x L (by rw[← hg];exact hb)⟩
theorem zb62 {M:Nat→Bool} {B:List Tr} {G G':Heap} {ρ':Ren} {w':World} (hA:Rel N w₀ ρ (zbx M base B G) w) (hR:Rel N w₀ ρ' G' w') (hE:Ext ρ G w ρ' G' w')
  (hfree:∀ s∈B,∀ j,s.kd = .float j→G.get (base + j)=none∧base + j < G.next∧G'.get (base + j)=none) :
  Rel N w₀ ρ' (zbx M base B G') w'∧Ext ρ (zbx M base B G) w ρ' (zbx M base B G') w':=by
 have hboth:=zls M B G G' fun s hs j hj=>⟨(hfree s hs j hj).2.1,Nat.lt_of_lt_of_le (hfree s hs j hj).2.1 hE.next⟩
 have hn1:=zfl (base:=base) M B G
 have hn2:=zfl (base:=base) M B G'
 have hGA:∀ b x,G.get b=some x→(zbx M base B G).get b=some x:=by
  intro b x hb
  rcases hboth b with⟨⟨s,hs,j,hj,_,rfl⟩,_⟩ | ⟨q,_⟩
  ·rw[(hfree s hs j hj).1] at hb;cases hb
  ·rw[q];exact hb
 have hG'A:∀ b x,G'.get b=some x→(zbx M base B G').get b=some x:=by
  intro b x hb
  rcases hboth b with⟨⟨s,hs,j,hj,_,rfl⟩,_⟩ | ⟨_,q⟩
  ·rw[(hfree s hs j hj).2.2] at hb;cases hb
  ·rw[q];exact hb
 have hkind:∀ b x,(zbx M base B G').get b=some x→((zbx M base B G).get b=some x∧G.get b=none∧b < G.next)∨G'.get b=some x:=by
  intro b x hb
  rcases hboth b with⟨⟨s,hs,j,hj,_,rfl⟩,q⟩ | ⟨_,q⟩
  ·exact .inl ⟨by rw[q];exact hb,(hfree s hs j hj).1,(hfree s hs j hj).2.1⟩
  ·exact .inr (by rw[← q];exact hb)
 have hfl:∀ b x L,(zbx M base B G).get b=some x→G.get b=none→ρ b=some L→∀ b0 x0 L0,G.get b0=some x0→ρ b0=some L0→L0.blk≠L.blk:=by
  intro b x L hb hn hL b0 x0 L0 hb0 hL0
  exact hA.inj b0 b x0 x L0 L (hGA _ _ hb0) hb (fun e=>by rw[e,hn] at hb0;cases hb0) hL0 hL
 refine⟨⟨hR.below,hR.big,fun b hb=>hR.dom b (by omega),hR.base,fun b x hb=>?_,fun b b' x x' L L' hb hb' hne hL hL'=>?_⟩,⟨hE.le,fun b hb=>hE.same b (by omega),by rw[hn1,hn2];exact hE.next,⟨hE.apart.1,fun c hc hn=>hE.apart.2 c hc fun b x L hb hL=>hn b x L (hGA _ _ hb) hL⟩,fun b x L hb hL=>?_⟩⟩
 ·rcases hkind b x hb with⟨h1,h2,h3⟩ | h1
  ·obtain⟨L,hL,hr⟩:=hA.blk b x h1
   refine⟨L,by rw[hE.same b h3];exact hL,hr.mono hE.le (hE.apart.2 _ (hA.lt h1 hL) fun b0 x0 L0 hb0 hL0=>hfl b x L h1 h2 hL b0 x0 L0 hb0 hL0)⟩
  ·exact hR.blk b x h1
 ·rcases hkind b x hb with⟨h1,h2,h3⟩ | h1 <;> rcases hkind b' x' hb' with⟨g1,g2,g3⟩ | g1
  ·rw[hE.same b h3] at hL;rw[hE.same b' g3] at hL'
   exact hA.inj b b' x x' L L' h1 g1 hne hL hL'
  ·rw[hE.same b h3] at hL
   rcases hE.old b' x' L' g1 hL' with q | ⟨b0,x0,L0,q1,q2,q3⟩
   ·have:=hA.lt h1 hL;omega
   ·rw[← q3];exact fun e=>hfl b x L h1 h2 hL b0 x0 L0 q1 q2 e.symm
  ·rw[hE.same b' g3] at hL'
   rcases hE.old b x L h1 hL with q | ⟨b0,x0,L0,q1,q2,q3⟩
   ·have:=hA.lt g1 hL';omega
   ·rw[← q3];exact fun e=>hfl b' x' L' g1 g2 hL' b0 x0 L0 q1 q2 e
  ·exact hR.inj b b' x x' L L' h1 g1 hne hL hL'
 ·rcases hkind b x hb with⟨h1,h2,h3⟩ | h1
  ·rw[hE.same b h3] at hL;exact .inr ⟨b,x,L,h1,hL,rfl⟩
  ·rcases hE.old b x L h1 hL with q | ⟨b0,x0,L0,q1,q2,q3⟩
   ·exact .inl q
   ·exact .inr ⟨b0,x0,L0,hGA _ _ q1,q2,q3⟩
theorem zbh6 (Mp:Nat→Prop) (acc:Array Nat) (hacc:∀ j,Mp j→∀ i,(acc.getD j 0).testBit i=true→Mp i):∀ (es:List Edge) (s:Nat),(∀ i,s.testBit i=true→Mp i)→(∀ e∈es,Region.binds .any e=true→Mp e.on) →
  ∀ i,(es.foldl (fun s e=>if Region.binds .any e then s ||| 2 ^ e.on ||| acc.getD e.on 0 else s) s).testBit i=true→Mp i
 | [],s,hs,_=>hs
 | e :: es,s,hs,he=>by
  simp only[List.foldl_cons]
  refine zbh6 Mp acc hacc es _ (fun i hi=>?_) fun e' h'=>he e' (by simp[h'])
  split at hi
  ·rename_i hb
   have hon:=he e (by simp) hb
   simp only[Nat.testBit_or,Bool.or_eq_true,Nat.testBit_two_pow,decide_eq_true_eq] at hi
   rcases hi with (hi | hi) | hi
   ·exact hs i hi
   ·subst hi;exact hon
   ·exact hacc e.on hon i hi
  ·exact hs i hi
theorem zuz {Mp:Nat→Prop} (down:∀ j,Mp j→∃ o,ops[j]? = some o∧∀ e∈o.after.toList,Region.binds .any e=true→Mp e.on):∀ j,Mp j→∀ i,ancB (Region.before ops) j i=true→Mp i:=by
 have key:∀ (l:List Oper) (acc:Array Nat),(∀ j,l[j]? = ops[acc.size + j]?)→(∀ j,Mp j→∀ i,(acc.getD j 0).testBit i=true→Mp i) →
   ∀ j,Mp j→∀ i,((l.foldl (fun (acc:Array Nat) (o:Oper)=>acc.push (o.after.foldl (fun s e=>if Region.binds .any e then s ||| 2 ^ e.on ||| acc.getD e.on 0 else s) 0)) acc).getD j 0).testBit i=true→Mp i:=by
  intro l
  induction l with
  | nil=>intro acc _ h;exact h
  | cons o l ih =>
   intro acc hl h
   simp only[List.foldl_cons]
   refine ih _ (fun j=>?_) fun j hj i hi=>?_
   ·have:=hl (j + 1)
    simp only[List.getElem?_cons_succ] at this
    rw[this,Array.size_push];congr 1;omega
   ·rw[Array.getD_eq_getD_getElem?,Array.getElem?_push] at hi
    split at hi
    ·rename_i hjs
     simp only[Option.getD_some] at hi
     obtain⟨o',ho',he⟩:=down j hj
     have h0:=hl 0
     simp only[List.getElem?_cons_zero,Nat.add_zero] at h0
     rw[hjs,← h0] at ho';cases ho'
     rw[← Array.foldl_toList] at hi
     exact zbh6 Mp acc h o.after.toList 0 (by simp) he i hi
    ·rw[← Array.getD_eq_getD_getElem?] at hi
     exact h j hj i hi
 intro j hj i hi
 unfold ancB Region.before at hi
 rw[← Array.foldl_toList] at hi
 exact key ops.toList #[] (fun j=>by simp) (by simp) j hj i hi
theorem zqp {bf:Array Nat}:∀ (perm done:List Nat),zbb0 P ops bf fl done perm=true→∀ X j Y,perm=X ++ j :: Y →
  ∃ o,ops[j]? = some o∧j ∉ done∧j ∉ X∧(∀ e∈o.after.toList,Region.binds .any e=true→e.on∈done∨e.on∈X)∧(∀ i,i∈done∨i∈X→zbs2 P ops bf fl i j=true)∧(∀ cs b,o.op ≠ .select cs b)
 | [],done,h,X,j,Y,he=>by cases X <;> simp at he
 | i :: rest,done,h,X,j,Y,he=>by
  simp only[zbb0] at h
  cases ho:ops[i]? with
  | none=>rw[ho] at h;cases h
  | some o =>
   rw[ho] at h
   simp only[Bool.and_eq_true,Bool.not_eq_true',List.all_eq_true,Bool.or_eq_true] at h
   obtain⟨⟨⟨⟨h1,h2⟩,h3⟩,h4⟩,h5⟩:=h
   cases X with
   | nil =>
    simp only[List.nil_append,List.cons.injEq] at he
    obtain⟨rfl,rfl⟩:=he
    refine⟨o,ho,by simpa using h1,by simp,fun e he hb=>?_,fun i hi=>?_,fun cs b hs=>?_⟩
    ·rcases h2 e he with q | q
     ·rw[hb] at q;cases q
     ·exact .inl (by simpa using q)
    ·rcases hi with hi | hi
     ·exact h4 i hi
     ·simp at hi
    ·rw[hs] at h3;cases h3
   | cons x X =>
    simp only[List.cons_append,List.cons.injEq] at he
    obtain⟨rfl,rfl⟩:=he
    obtain⟨o',g1,g2,g3,g4,g5,g6⟩:=zqp _ _ h5 X j Y rfl
    refine⟨o',g1,fun q=>g2 (by simp[q]),fun q=>?_,fun e he hb=>?_,fun i' hi=>?_,g6⟩
    ·rcases List.mem_cons.1 q with q | q
     ·exact g2 (by simp[q])
     ·exact g3 q
    ·rcases g4 e he hb with q | q
     ·rcases List.mem_cons.1 q with q | q
      ·exact .inr (by simp[q])
      ·exact .inl q
     ·exact .inr (by simp[q])
    ·rcases hi with hi | hi
     ·exact g5 i' (.inl (by simp[hi]))
     ·rcases List.mem_cons.1 hi with hi | hi
      ·exact g5 i' (.inl (by simp[hi]))
      ·exact g5 i' (.inr hi)
def zfb (n:Nat) (M:Nat→Bool):List Tr→Env→Env
 | [],e=>e
 | s :: r,e=>zfb n M r (if M s.i then e.put n s.o.dst s.v else e)
theorem z7w {e:Env} {d:Option Nat} {v:V} {t:Nat} (h:d≠some t):e.put n d v t=e t:=by
 cases d with
 | none=>rfl
 | some d =>
  simp only[Env.put]
  cases hb:Nat.blt d n with
  | false=>simp only[cond_false]
  | true =>
   have hq:Nat.beq t d=false:=zbme (fun q=>h (by rw[q]))
   simp only[cond_true,hq,cond_false]
theorem zbh7 {e e':Env} {d:Option Nat} {v:V} {t:Nat} (h:e t=e' t):e.put n d v t=e'.put n d v t:=by
 cases d with
 | none=>exact h
 | some d =>
  simp only[Env.put]
  cases hb:Nat.blt d n with
  | false=>simpa using h
  | true=>simp only[cond_true,h]
theorem z1i (M:Nat→Bool):∀ (A B:List Tr) (e:Env),zfb n M (A ++ B) e=zfb n M B (zfb n M A e)
 | [],B,e=>rfl
 | s :: A,B,e=>z1i M A B _
theorem zbes (M:Nat→Bool) {t:Nat}:∀ (X:List Tr) (e e':Env),(∀ p∈X,p.o.dst=some t→M p.i=true)→e t=e' t→zfb n M X e t=z4e n X e' t
 | [],e,e',_,h=>h
 | s :: X,e,e',hX,h=>by
  simp only[zfb,z4e]
  refine zbes M X _ _ (fun p hp=>hX p (by simp[hp])) ?_
  split
  ·exact zbh7 h
  ·rename_i hm
   rw[z7w fun q=>hm (hX s (by simp) q)];exact h
theorem zbce (M:Nat→Bool) {t:Nat}:∀ (Y:List Tr) (e:Env),(∀ p∈Y,p.o.dst=some t→M p.i=false)→zfb n M Y e t=e t
 | [],e,_=>rfl
 | s :: Y,e,h=>by
  simp only[zfb]
  rw[zbce M Y _ fun p hp=>h p (by simp[hp])]
  split
  ·rename_i hm;rw[z7w fun q=>by rw[h s (by simp) q] at hm;cases hm]
  ·rfl
theorem zbqa (M:Nat→Bool) {t:Nat}:∀ (Y:List Tr) (e e':Env),e t=e' t→zfb n M Y e t=zfb n M Y e' t
 | [],_,_,h=>h
 | s :: Y,e,e',h=>by
  simp only[zfb]
  refine zbqa M Y _ _ ?_
  split
  ·exact zbh7 h
  ·exact h
theorem z7x (M M':Nat→Bool):∀ (Y:List Tr) (e:Env),(∀ p∈Y,M p.i=M' p.i)→zfb n M Y e=zfb n M' Y e
 | [],_,_=>rfl
 | s :: Y,e,h=>by
  simp only[zfb]
  rw[h s (by simp),z7x M M' Y _ fun p hp=>h p (by simp[hp])]
theorem zby1 (M:Nat→Bool) {d:Option Nat} {v:V} (Y:List Tr) (e:Env) (h:∀ p∈Y,M p.i=true→∀ t,d=some t→p.o.dst≠some t) (t:Nat):zfb n M Y (e.put n d v) t=(zfb n M Y e).put n d v t:=by
 cases d with
 | none=>rfl
 | some d =>
  by_cases ht:t=d
  ·subst ht
   rw[zbce M Y _ fun p hp hd=>by
    cases hm:M p.i with
    | false=>rfl
    | true=>exact absurd hd (h p hp hm t rfl)]
   refine zbh7 ?_
   rw[zbce M Y _ fun p hp hd=>by
    cases hm:M p.i with
    | false=>rfl
    | true=>exact absurd hd (h p hp hm t rfl)]
  ·rw[z7w (fun q=>ht (by cases q;rfl))]
   exact zbqa M Y _ _ (z7w (fun q=>ht (by cases q;rfl)))
end Go.AM
