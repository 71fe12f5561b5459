import Derived.Test.YtjchglndancedaaGreatDoorAmReg7
import Derived.LoopN
import Derived.Scope
import Derived.IntWalk
set_option linter.all false
/- Regions whose order is drawn: whatever is drawn. -/
namespace Go.AM
open Go.RowKit (Below)
variable {P:Program} {N:Nat} {w₀:World} {ρ:Ren} {H:Heap} {w:World} {σ:zu} {n:Nat} {ops:Array Oper} {fl:List Nat} {base:Nat}
theorem zbgb:∀ (l:List Bool) (i:Nat),l[i]? = some false→(l.set i true).countP id=l.countP id + 1
 | [],i,h=>by simp at h
 | b :: l,0,h=>by simp at h;subst h;simp
 | b :: l,i + 1,h=>by
  have:=zbgb l i (by simpa using h)
  cases b <;> simp[List.countP_cons,this] <;> omega
theorem zbpe (l:List Bool) (h:l.countP id=l.length):∀ b∈l,b=true:=fun b hb=>by
 have:=List.countP_eq_length.mp h b hb
 simpa using this
section
variable {perm:List Nat} {e0:Env} {Hs:Heap} {tr:List Tr} {ef:Env} {Hf:Heap} {ρS:Ren} {HS:Heap} {wS:World} {aS:Act}
theorem zbri (S:Stat P σ n ops fl base N perm e0 Hs tr ef Hf) {L:Array Bool} {a:Act} {k:Nat} (I:Inv n ops base N w₀ e0 Hs tr ρS HS wS aS L a w ρ k) (hall:∀ X s Y,tr=X ++ s :: Y→mm L s.i=true) :
  Rel N w₀ ρ Hf w∧EnvRel n ρ ef a∧Ext ρS HS wS ρ Hf w∧a.defers=aS.defers:=by
 have hk:k=cnt tr:=by
  rcases Nat.lt_or_ge k (cnt tr) with q | q
  ·obtain⟨X1,p,X2,g1,g2,g3⟩:=z1i tr k q
   have:=(I.chain X1 p X2 g1 g2).1 (hall X1 p X2 g1)
   omega
  ·have:=I.kle;omega
 have hmem:∀ s∈tr,mm L s.i=true:=fun s hs=>by
  obtain⟨X,Y,h⟩:=List.append_of_mem hs
  exact hall X s Y h
 have hsub:∀ s∈after k tr,s∈tr:=by
  intro s hs
  obtain⟨X1,h1,_⟩:=zjf k tr I.kle
  rw[h1];simp[hs]
 have hHf:zbo (mm L) base (after k tr) (zbn k Hs tr)=Hf:=by
  rw[(zbjq S.run Hs [] rfl).2,← hk]
  rw[zja (mm L) (fun _=>true) (after k tr) _ fun s hs j hj=>hmem s (hsub s hs)]
  by_cases hz:k=0
  ·rw[if_pos hz];subst hz;simp[after]
  ·rw[if_neg hz]
 have hef:∀ t,zez n (mm L) tr e0 t=ef t:=by
  intro t
  rw[S.run.env_end]
  exact z9p (mm L) tr e0 e0 (fun p hp _=>hmem p hp) rfl
 exact⟨by rw[← hHf];exact I.rel,⟨I.env.size,fun t=>by rw[← hef];exact I.env.slot t⟩,by rw[← hHf];exact I.ext,I.defers⟩
theorem zbjr (S:Stat P σ n ops fl base N perm e0 Hs tr ef Hf) {L:Array Bool} (hsz:L.size=ops.size) (hr:Region.ready .any ops L=[]):∀ (m:Nat) X s Y,X.length=m→tr=X ++ s :: Y→mm L s.i=true:=by
 intro m
 induction m using Nat.strongRecOn with
 | _ m ih =>
  intro X s Y hm he
  cases hu:mm L s.i with
  | true=>rfl
  | false =>
   obtain⟨o,h1,_,_,h2,_⟩:=zo0 perm [] S.ord (X.map (·.i)) s.i (Y.map (·.i)) (S.perm_eq he)
   have:s.i∈Region.ready .any ops L:=by
    refine zbrh hsz h1 hu fun e hee hb=>?_
    rcases h2 e hee hb with q | q
    ·simp at q
    ·obtain⟨p,hp,hpe⟩:=List.mem_map.1 q
     obtain⟨A,B,hAB⟩:=List.append_of_mem hp
     have he2:tr=A ++ p :: (B ++ s :: Y):=by rw[he,hAB];simp
     have:=ih A.length (by rw[← hm,hAB];simp) A p _ rfl he2
     rw[← hpe];exact this
   rw[hr] at this;simp at this
theorem zbrj (S:Stat P σ n ops fl base N perm e0 Hs tr ef Hf) (hbase:HS.next=base) {Q:Exit→Act→World→Prop} (hq:∀ ρ' w' a',Rel N w₀ ρ' Hf w'→EnvRel n ρ' ef a'→Ext ρS HS wS ρ' Hf w'→a'.defers=aS.defers→Q .normal a' w') :
  ∀ (fuel:Nat) (L:Array Bool) (a:Act) (w:World) (ρ:Ren) (k:Nat),Inv n ops base N w₀ e0 Hs tr ρS HS wS aS L a w ρ k→fuel + L.toList.countP id=ops.size→wpAny P .any ops Q fuel L a w
 | 0,L,a,w,ρ,k,I,hc=>by
  have hall:=zbpe L.toList (by rw[Array.length_toList,I.size];omega)
  have hmm:∀ i,i < ops.size→mm L i=true:=by
   intro i hi
   have hL:i < L.size:=by rw[I.size];exact hi
   have:=hall L[i] (by simp)
   simpa[mm,hL] using this
  have hready:Region.ready .any ops L=[]:=by
   cases hr:Region.ready .any ops L with
   | nil=>rfl
   | cons i r =>
    obtain⟨h1,h2,_⟩:=z56 I.size (i:=i) (by rw[hr];simp)
    rw[hmm i h1] at h2;cases h2
  have:=zbri S I fun X s Y he=>by
   obtain⟨_,_,ho,_⟩:=S.run.split he
   have:s.i < ops.size:=by
    rcases Nat.lt_or_ge s.i ops.size with q | q
    ·exact q
    ·simp[Array.getElem?_eq_none q] at ho
   exact hmm _ this
  exact⟨hready,hq ρ w a this.1 this.2.1 this.2.2.1 this.2.2.2⟩
 | fuel + 1,L,a,w,ρ,k,I,hc=>by
  refine⟨fun hr=>?_,fun i hi=>?_⟩
  ·have:=zbri S I fun X s Y he=>zbjr S I.size hr X.length X s Y rfl he
   exact hq ρ w a this.1 this.2.1 this.2.2.1 this.2.2.2
  ·obtain⟨h1,h2,_⟩:=z56 I.size hi
   have hL:i < L.size:=by rw[I.size];exact h1
   refine step S hbase I hi fun a' w' ρ' k' I'=>zbrj S hbase hq fuel _ a' w' ρ' k' I' ?_
   have:L.toList[i]? = some false:=by
    have:L[i]=false:=by simpa[mm,hL] using h2
    simp[hL,this]
   rw[Array.toList_setIfInBounds,zbgb _ _ this]
   omega
end
theorem zt4:∀ (m:Nat) (H:Heap),(∀ b,(ztg H m).get b=H.get b)∧(ztg H m).next=H.next + m
 | 0,H=>⟨fun b=>rfl,rfl⟩
 | m + 1,H=>by
  obtain⟨h1,h2⟩:=zt4 m (H.push none)
  refine⟨fun b=>?_,by show (ztg (H.push none) m).next=_;rw[h2,Heap.next_push];omega⟩
  show (ztg (H.push none) m).get b=_
  rw[h1,Heap.get_push]
  split
  ·rename_i e
   subst e
   cases hg:H.get H.next with
   | none=>rfl
   | some x=>exact absurd (Heap.get_lt hg) (Nat.lt_irrefl _)
  ·rfl
theorem zbjs:∀ (l:List Nat) {i j:Nat},zwe l i=some j→j < l.length
 | [],i,j,h=>by simp[zwe] at h
 | x :: xs,i,j,h=>by
  simp only[zwe] at h
  cases hb:Nat.beq x i with
  | true=>rw[hb] at h;simp at h;subst h;simp
  | false =>
   rw[hb] at h
   simp only[cond_false] at h
   split at h
   ·rename_i j' hj';cases h;have:=zbjs xs hj';simp;omega
   ·cases h
theorem z9q {H':Heap}:∀ (l:List Nat),(∀ j,j < fl.length→H'.get (base + j)=none∧base + j < H'.next)→zgn H' (kept fl base l)=true
 | [],_=>rfl
 | x :: xs,h=>by
  simp only[kept]
  split
  ·rename_i j hj
   obtain⟨h1,h2⟩:=h j (zbjs fl hj)
   simp only[zgn,h1,zbw2 h2,Bool.true_and]
   exact z9q xs h
  ·exact z9q xs h
theorem zbmd {R:Type} (hσ:zd3 P σ) (hG:P.globals.size≤N) {Q:Exit→Act→World→Prop} {r:R} {Hr:Heap} {k:Env→M R} {perm:List Nat} {en:Env} {a:Act} {id:Nat} (h:Rel N w₀ ρ H w) (he:EnvRel n ρ en a)
  (hl:regD P σ n ops perm fl en k H=some (r,Hr))
  (hq:∀ ρ' H' w' en' a',Rel N w₀ ρ' H' w'→EnvRel n ρ' en' a'→Ext ρ H w ρ' H' w'→a'.defers=a.defers→k en' H'=some (r,Hr)→Q .normal a' w'):(Code.region id ops true).wp P Q a w:=by
 unfold regD at hl
 cases hok:okD P ops perm fl with
 | false=>rw[hok] at hl;cases hl
 | true =>
  rw[hok] at hl
  simp only[cond_true] at hl
  simp only[okD,Bool.and_eq_true,List.all_eq_true] at hok
  obtain⟨⟨⟨⟨⟨o1,o2⟩,o3⟩,o4⟩,_⟩,_⟩:=hok
  obtain⟨tr,ef,Hf,hrun,hk⟩:=zbjn perm en (ztg H fl.length) [] hl
  simp only[List.nil_append] at hk
  obtain⟨hk1,hk2⟩:=zwh tr 0 hk
  obtain⟨hg,hn⟩:=zt4 fl.length H
  have hfree0:∀ b,H.next≤b→H.get b=none:=fun b hb=>by
   cases hg:H.get b with
   | none=>rfl
   | some x=>exact absurd (Heap.get_lt hg) (by omega)
  have S:Stat P σ n ops fl H.next N perm en (ztg H fl.length) tr ef Hf :=
   ⟨hσ,hG,hrun,o3,fun i hi=>by have:=o2 i (by simpa using hi);simpa using this,o4,fun X s Y e hs kk HH hv hne hco=>hk2 X s Y e hs kk HH hv (by simpa using hne) hco,
    z9q perm fun j hj=>⟨by rw[hg];exact hfree0 _ (by omega),by omega⟩⟩
  have hrel:Rel N w₀ ρ (ztg H fl.length) { w with drawn:=w.drawn + 1 } := by
   have h':=h.drew (w.drawn + 1)
   exact⟨h'.below,h'.big,fun b hb=>h'.dom b (by omega),h'.base,fun b x hb=>h'.blk b x (by rw[← hg];exact hb),fun b b' x x' L L' hb hb'=>h'.inj b b' x x' L L' (by rw[← hg];exact hb) (by rw[← hg];exact hb')⟩
  have hext:Ext ρ H w ρ (ztg H fl.length) { w with drawn:=w.drawn + 1 } :=
   ⟨.refl _,fun _ _=>rfl,by omega,⟨Nat.le_refl _,fun _ _ _=>rfl⟩,fun b x L hb hL => .inr ⟨b,x,L,by rw[← hg];exact hb,hL,rfl⟩⟩
  have hmm:∀ i,mm (Array.replicate ops.size false) i=false:=by
   intro i
   unfold mm
   rw[Array.getD_eq_getD_getElem?,Array.getElem?_replicate]
   split <;> rfl
  have hset0:∀ (B:List Tr) (G:Heap),zbo (mm (Array.replicate ops.size false)) H.next B G=G:=by
   intro B G
   have h1:=zja (base:=H.next) (mm (Array.replicate ops.size false)) (fun _=>false) B G (fun s _ j _=>hmm s.i)
   rw[h1]
   clear h1
   induction B generalizing G with
   | nil=>rfl
   | cons s B ih=>unfold zbo;cases s.kd <;> simp[ih]
  have hcur0:∀ (B:List Tr) (e:Env),zez n (mm (Array.replicate ops.size false)) B e=e:=by
   intro B e
   rw[z3t (mm (Array.replicate ops.size false)) (fun _=>false) B e (fun s _=>hmm s.i)]
   induction B generalizing e with
   | nil=>rfl
   | cons s B ih=>simp[zez,ih]
  refine wp_region_any o1 (zbrj S rfl (ρS:=ρ) (HS:=H) (wS:=w) (aS:=a) (fun ρ' w' a' q1 q2 q3 q4=>hq ρ' Hf w' ef a' q1 q2 q3 q4 hk1) ops.size _ a _ ρ 0 ?_ ?_)
  ·refine⟨by simp,(fun i hi=>by rw[hmm] at hi;cases hi),by omega,(fun X s Y _ _=>by rw[hmm];simp),?_,?_,?_,fun X s Y j e hj _=>?_,rfl⟩
   ·rw[hset0];simpa[zbn] using hrel
   ·rw[hcur0];exact he
   ·rw[hset0];simpa[zbn] using hext
   ·exact h.dom _ (by omega)
  ·simp
end Go.AM

/- Code and functions on the abstract machine. -/
namespace Go.AM
open Go.RowKit (Below)
inductive Hint where
 | leaf
 | reg (perm fl:List Nat)
 | seq (la:List Nat) (a b:Hint)
 | cond (a b:Hint)
 | blk (a:Hint)
 | loop (l:List Nat) (a:Hint)
 | scp (a:Hint)
def zbw3:Code→Bool | .region _ _ _=>true | _=>false
def regK {R:Type} (P:Program) (σ:zu) (n:Nat) (c:Code) (h:Hint) (e:Env) (k:Env→M R):M R:=match c with
 | .region _ ops false=>z9e P σ n ops ops.toList e k
 | .region _ ops true=>match h with
  | .reg perm fl=>regD P σ n ops perm fl e k
  | _=>fail
 | _=>fail
def zbjt (id:Nat):List (Nat × List Nat)→Option (List Nat)
 | []=>none
 | (i,l) :: r=>bif Nat.beq i id then some l else zbjt id r
def den (P:Program) (σ:zu) (n:Nat) (R:List Nat):Code→Hint→List (Nat × List Nat)→List Nat→Env→M Out
 | .skip,_,_,nl,e=>ret (.nxt (zuf nl e))
 | .label _,_,_,nl,e=>ret (.nxt (zuf nl e))
 | .region id ops d,h,_,nl,e=>regK P σ n (.region id ops d) h e fun e'=>ret (.nxt (zuf nl e'))
 | .seq a b,.seq la ha hb,Γ,nl,e=>bif zbw3 a then regK P σ n a ha e fun e'=>den P σ n R b hb Γ nl e'
  else zb (den P σ n R a ha Γ la e) fun o=>nx o fun vs=>den P σ n R b hb Γ nl (z08 la vs)
 | .cond c a b,.cond ha hb,Γ,nl,e=>zn (evO P e c) (den P σ n R a ha Γ nl e) (den P σ n R b hb Γ nl e)
 | .block id a,.blk ha,Γ,nl,e=>zb (den P σ n R a ha ((id,nl) :: Γ) nl e) fun o=>ret (zz id o)
 | .loop a,.loop l ha,Γ,_,e=>zbg zby (fun vs=>den P σ n R a ha Γ l (z08 l vs)) (zuf l e)
 | .exit id,_,Γ,_,e=>match zbjt id Γ with | some l=>ret (.brk id (zuf l e)) | none=>fail
 | .ret,_,_,_,e=>ret (.ret (zuf R e))
 | .scope a,.scp ha,Γ,nl,e=>den P σ n R a ha Γ nl e
 | _,_,_,_,_=>fail
def zo1:List ResultVar→List Nat
 | []=>[]
 | .tmp t :: r=>t :: zo1 r
 | .cell a _ :: r=>a :: zo1 r
def resM (P:Program) (e:Env):List ResultVar→(List V→M V)→M V
 | [],k=>k []
 | .tmp t :: r,k=>resM P e r fun l=>k (e t :: l)
 | .cell a t :: r,k=>match tk P t with
  | some .one=>zb (z8 (e a)) fun v=>resM P e r fun l=>k (v :: l)
  | some (.agg n)=>zb (ldn n (e a)) fun v=>resM P e r fun l=>k (v :: l)
  | none=>fail
def zbh (l:List V):V:=match l with
 | [v]=>v
 | l => .tuple l.toArray
def envOf (args:List V):Env:=fun i=>args.getD i undef
def zbl (o:Out) (k:List V→M V):M V:=match o with
 | .nxt vs=>k vs
 | .ret vs=>k vs
 | .brk _ _=>fail
def funM (P:Program) (σ:zu) (f:Nat) (h:Hint) (args:List V):M V:=match P.funcs[f]? with
 | none=>fail
 | some fn=>match fn.body with
  | none=>fail
  | some c=>bif Nat.ble args.length fn.ntmps then
    zb (den P σ fn.ntmps (zo1 fn.results.toList) c h [] (zo1 fn.results.toList) (envOf args)) fun o=>zbl o fun vs =>
     resM P (z08 (zo1 fn.results.toList) vs) fn.results.toList fun l=>ret (zbh l)
   else fail
variable {P:Program} {N:Nat} {w₀:World} {ρ:Ren} {H:Heap} {w:World} {σ:zu} {n:Nat}
def zbcs (l:List Nat) (vs:List V) (ρ:Ren) (a:Act):Prop:=∀ j t,l[j]? = some t→VRel ρ (vs.getD j undef) (a.tmps.getD t undef)
theorem zjg {en:Env} {a:Act} (he:EnvRel n ρ en a):∀ (l:List Nat),zbcs l (zuf l en) ρ a
 | [],j,t,h=>by simp at h
 | x :: xs,0,t,h=>by simp at h;subst h;simpa[zuf] using he.slot x
 | x :: xs,j + 1,t,h=>by
  have:=zjg he xs j t (by simpa using h)
  simpa[zuf] using this
theorem z1j {a:Act} {vs:List V}:∀ (l:List Nat) (j:Nat),(∀ i t,l[i]? = some t→VRel ρ (vs.getD (j + i) undef) (a.tmps.getD t undef))→∀ t,VRel ρ (zy8 l j vs t) (a.tmps.getD t undef)
 | [],j,h,t => .undef _
 | x :: xs,j,h,t=>by
  simp only[zy8]
  cases hb:Nat.beq t x with
  | true =>
   have:=Nat.eq_of_beq_eq_true hb;subst this
   simpa using h 0 t rfl
  | false=>exact z1j xs (j + 1) (fun i t' hi=>by have:=h (i + 1) t' (by simpa using hi);rwa[show j + (i + 1)=j + 1 + i by omega] at this) t
theorem zzh {l:List Nat} {vs:List V} {a:Act} (hs:a.tmps.size=n) (h:zbcs l vs ρ a):EnvRel n ρ (z08 l vs) a :=
 ⟨hs,z1j l 0 fun i t hi=>by simpa using h i t hi⟩
def Ends (R:List Nat) (Γ:List (Nat × List Nat)) (nl:List Nat) (o:Out) (ρ:Ren) (ex:Exit) (a:Act):Prop:=match o with
 | .nxt vs=>ex = .normal∧zbcs nl vs ρ a
 | .brk id vs=>ex = .exit id∧∃ l,zbjt id Γ=some l∧zbcs l vs ρ a
 | .ret vs=>ex = .ret∧zbcs R vs ρ a
theorem zbct {R:Type} (hσ:zd3 P σ) (hG:P.globals.size≤N) {Q:Exit→Act→World→Prop} {r:R} {Hr:Heap} {k:Env→M R} {c:Code} {hint:Hint} {en:Env} {a:Act} (h:Rel N w₀ ρ H w) (he:EnvRel n ρ en a)
  (hl:regK P σ n c hint en k H=some (r,Hr))
  (hq:∀ ρ' H' w' en' a',Rel N w₀ ρ' H' w'→EnvRel n ρ' en' a'→Ext ρ H w ρ' H' w'→a'.defers=a.defers→k en' H'=some (r,Hr)→Q .normal a' w'):c.wp P Q a w:=by
 cases c <;> simp only[regK] at hl <;> first | exact (zw hl).elim | skip
 rename_i id ops d
 cases d with
 | false =>
  exact wp_region_list (z7o hσ hG ops ops.toList ρ H w en a h he hl hq)
 | true =>
  cases hint <;> simp only[regK] at hl <;> first | exact (zw hl).elim | skip
  exact zbmd hσ hG h he hl hq
theorem zbrl {c:V} {m1 m2:M Out} {o:Out} {Hr:Heap} (h:zn c m1 m2 H=some (o,Hr)):(c = .bool true∧m1 H=some (o,Hr))∨(c = .bool false∧m2 H=some (o,Hr)):=by
 unfold zn at h
 split at h
 ·exact .inl ⟨rfl,h⟩
 ·exact .inr ⟨rfl,h⟩
 ·exact (zw h).elim
theorem z3u {α β:Type} {m:M α} {k:α→M β} {r:β} {Hr:Heap} (h:zb m k H=some (r,Hr)):∃ a H1,m H=some (a,H1)∧k a H1=some (r,Hr):=by
 unfold zb at h
 split at h
 ·rename_i a H1 hm;exact⟨a,H1,hm,h⟩
 ·cases h
set_option maxHeartbeats 1000000 in
theorem zbpf (hσ:zd3 P σ) (hG:P.globals.size≤N) (R:List Nat):∀ (c:Code) (hint:Hint) (Γ:List (Nat × List Nat)) (nl:List Nat) (ρ:Ren) (H:Heap) (w:World) (en:Env) (a:Act) (o:Out) (Hr:Heap) (Q:Exit→Act→World→Prop),
  Rel N w₀ ρ H w→EnvRel n ρ en a→den P σ n R c hint Γ nl en H=some (o,Hr) →
  (∀ ρ' w' a' ex,Rel N w₀ ρ' Hr w'→Ext ρ H w ρ' Hr w'→a'.tmps.size=n→a'.defers=a.defers→Ends R Γ nl o ρ' ex a'→Q ex a' w')→c.wp P Q a w:=by
 intro c
 induction c with
 | skip =>
  intro hint Γ nl ρ H w en a o Hr Q h he hl hq
  simp only[den,ret] at hl;cases hl
  exact wp_skip (hq ρ w a .normal h (.refl _ _ _) he.size rfl ⟨rfl,zjg he nl⟩)
 | label l =>
  intro hint Γ nl ρ H w en a o Hr Q h he hl hq
  simp only[den,ret] at hl;cases hl
  exact wp_label (hq ρ w a .normal h (.refl _ _ _) he.size rfl ⟨rfl,zjg he nl⟩)
 | region id ops d =>
  intro hint Γ nl ρ H w en a o Hr Q h he hl hq
  simp only[den] at hl
  refine zbct hσ hG h he hl fun ρ' H' w' en' a' q1 q2 q3 q4 q5=>?_
  simp only[ret] at q5;cases q5
  exact hq ρ' w' a' .normal q1 q3 q2.size q4 ⟨rfl,zjg q2 nl⟩
 | seq x y ihx ihy =>
  intro hint Γ nl ρ H w en a o Hr Q h he hl hq
  cases hint <;> simp only[den] at hl <;> first | exact (zw hl).elim | skip
  rename_i la ha hb
  cases hr:zbw3 x with
  | true =>
   rw[hr] at hl
   simp only[cond_true] at hl
   refine wp_seq (zbct hσ hG h he hl fun ρ' H' w' en' a' q1 q2 q3 q4 q5=>?_)
   exact ihy hb Γ nl ρ' H' w' en' a' o Hr Q q1 q2 q5 fun ρ2 w2 a2 ex r1 r2 r3 r4 r5=>hq ρ2 w2 a2 ex r1 (q3.trans r2) r3 (r4.trans q4) r5
  | false =>
   rw[hr] at hl
   simp only[cond_false] at hl
   obtain⟨o1,H1,h1,h2⟩:=z3u hl
   refine wp_seq (ihx ha Γ la ρ H w en a o1 H1 _ h he h1 fun ρ' w' a' ex q1 q2 q3 q4 q5=>?_)
   cases o1 with
   | nxt vs =>
    simp only[nx] at h2
    obtain⟨rfl,hs⟩:=q5
    exact ihy hb Γ nl ρ' H1 w' (z08 la vs) a' o Hr Q q1 (zzh q3 hs) h2 fun ρ2 w2 a2 ex r1 r2 r3 r4 r5=>hq ρ2 w2 a2 ex r1 (q2.trans r2) r3 (r4.trans q4) r5
   | brk id vs =>
    simp only[nx,ret] at h2;cases h2
    obtain⟨rfl,hs⟩:=q5
    exact hq ρ' w' a' _ q1 q2 q3 q4 ⟨rfl,hs⟩
   | ret vs =>
    simp only[nx,ret] at h2;cases h2
    obtain⟨rfl,hs⟩:=q5
    exact hq ρ' w' a' _ q1 q2 q3 q4 ⟨rfl,hs⟩
 | cond cnd x y ihx ihy =>
  intro hint Γ nl ρ H w en a o Hr Q h he hl hq
  cases hint <;> simp only[den] at hl <;> first | exact (zw hl).elim | skip
  rename_i ha hb
  have hv:=z3r hG h he cnd
  rcases zbrl hl with⟨h1,h2⟩ | ⟨h1,h2⟩
  ·rw[h1] at hv
   exact wp_cond_true hv.bool_inv (ihx ha Γ nl ρ H w en a o Hr Q h he h2 hq)
  ·rw[h1] at hv
   exact wp_cond_false hv.bool_inv (ihy hb Γ nl ρ H w en a o Hr Q h he h2 hq)
 | block id x ih =>
  intro hint Γ nl ρ H w en a o Hr Q h he hl hq
  cases hint <;> simp only[den] at hl <;> first | exact (zw hl).elim | skip
  rename_i ha
  obtain⟨o1,H1,h1,h2⟩:=z3u hl
  simp only[ret] at h2;cases h2
  refine wp_block (ih ha ((id,nl) :: Γ) nl ρ H w en a o1 _ _ h he h1 fun ρ' w' a' ex q1 q2 q3 q4 q5=>?_)
  cases o1 with
  | nxt vs =>
   obtain⟨rfl,hs⟩:=q5
   exact hq ρ' w' a' _ q1 q2 q3 q4 ⟨rfl,hs⟩
  | brk id' vs =>
   obtain⟨rfl,l,hl1,hs⟩:=q5
   simp only[Exit.inBlock]
   simp only[zbjt] at hl1
   by_cases hid:id'=id
   ·subst hid
    have hbq:Nat.beq id' id'=true:=by simp
    rw[hbq] at hl1;simp only[cond_true] at hl1;cases hl1
    rw[if_pos rfl]
    exact hq ρ' w' a' _ q1 q2 q3 q4 (by simp only[zz,hbq,cond_true];exact⟨rfl,hs⟩)
   ·rw[if_neg hid]
    rw[zbf7 (fun e=>hid e.symm)] at hl1;simp only[cond_false] at hl1
    exact hq ρ' w' a' _ q1 q2 q3 q4 (by simp only[zz,zbf7 hid,cond_false];exact⟨rfl,l,hl1,hs⟩)
  | ret vs =>
   obtain⟨rfl,hs⟩:=q5
   exact hq ρ' w' a' _ q1 q2 q3 q4 ⟨rfl,hs⟩
 | loop x ih =>
  intro hint Γ nl ρ H w en a o Hr Q h he hl hq
  cases hint <;> simp only[den] at hl <;> first | exact (zw hl).elim | skip
  rename_i l ha
  have key:∀ (m:Nat) (vs:List V) (ρ:Ren) (H:Heap) (w:World) (a:Act) (Q:Exit→Act→World→Prop),Rel N w₀ ρ H w→a.tmps.size=n→zbcs l vs ρ a→zbg m (fun vs=>den P σ n R x ha Γ l (z08 l vs)) vs H=some (o,Hr) →
    (∀ ρ' w' a' ex,Rel N w₀ ρ' Hr w'→Ext ρ H w ρ' Hr w'→a'.tmps.size=n→a'.defers=a.defers→(∀ vs,o ≠ .nxt vs)→Ends R Γ nl o ρ' ex a'→Q ex a' w')→Code.rounds P x Q m a w:=by
   intro m
   induction m with
   | zero=>intro vs ρ H w a Q _ _ _ hl _;simp only[zbg] at hl;exact (zw hl).elim
   | succ m ihm =>
    intro vs ρ H w a Q h hsz hs hl hq
    simp only[zbg] at hl
    obtain⟨o1,H1,h1,h2⟩:=z3u hl
    rw[rounds_succ]
    refine ih ha Γ l ρ H w (z08 l vs) a o1 H1 _ h (zzh hsz hs) h1 fun ρ' w' a' ex q1 q2 q3 q4 q5=>?_
    cases o1 with
    | nxt vs' =>
     obtain⟨rfl,hs'⟩:=q5
     exact ihm vs' ρ' H1 w' a' Q q1 q3 hs' h2 fun ρ2 w2 a2 ex r1 r2 r3 r4 r5 r6=>hq ρ2 w2 a2 ex r1 (q2.trans r2) r3 (r4.trans q4) r5 r6
    | brk id vs' =>
     simp only[ret] at h2;cases h2
     obtain⟨rfl,hs'⟩:=q5
     exact hq ρ' w' a' _ q1 q2 q3 q4 (by simp) ⟨rfl,hs'⟩
    | ret vs' =>
     simp only[ret] at h2;cases h2
     obtain⟨rfl,hs'⟩:=q5
     exact hq ρ' w' a' _ q1 q2 q3 q4 (by simp) ⟨rfl,hs'⟩
  exact wp_loop_rounds zby (key zby (zuf l en) ρ H w a Q h he.size (zjg he l) hl fun ρ' w' a' ex r1 r2 r3 r4 _ r6=>hq ρ' w' a' ex r1 r2 r3 r4 r6)
 | exit id =>
  intro hint Γ nl ρ H w en a o Hr Q h he hl hq
  simp only[den] at hl
  cases hf:zbjt id Γ with
  | none=>rw[hf] at hl;exact (zw hl).elim
  | some l =>
   rw[hf] at hl
   simp only[ret] at hl;cases hl
   exact wp_exit (hq ρ w a _ h (.refl _ _ _) he.size rfl ⟨rfl,l,hf,zjg he l⟩)
 | ret =>
  intro hint Γ nl ρ H w en a o Hr Q h he hl hq
  simp only[den,AM.ret] at hl;cases hl
  exact wp_ret (hq ρ w a _ h (.refl _ _ _) he.size rfl ⟨rfl,zjg he R⟩)
 | scope x ih =>
  intro hint Γ nl ρ H w en a o Hr Q h he hl hq
  cases hint <;> simp only[den] at hl <;> first | exact (zw hl).elim | skip
  rename_i ha
  refine wp_scope_straight (ih ha Γ nl ρ H w en a o Hr _ h he hl fun ρ' w' a' ex q1 q2 q3 q4 q5=>?_)
  cases o with
  | nxt vs=>obtain⟨rfl,hs⟩:=q5;exact hq ρ' w' a' _ q1 q2 q3 q4 ⟨rfl,hs⟩
  | brk id vs=>obtain⟨rfl,hs⟩:=q5;exact hq ρ' w' a' _ q1 q2 q3 q4 ⟨rfl,hs⟩
  | ret vs=>obtain⟨rfl,hs⟩:=q5;exact hq ρ' w' a' _ q1 q2 q3 q4 ⟨rfl,hs⟩
 | rangeFunc f params assign body _ _=>intro hint Γ nl ρ H w en a o Hr Q h he hl hq;simp only[den] at hl;exact (zw hl).elim
 | goto l=>intro hint Γ nl ρ H w en a o Hr Q h he hl hq;simp only[den] at hl;exact (zw hl).elim
 | refuse why=>intro hint Γ nl ρ H w en a o Hr Q h he hl hq;simp only[den] at hl;exact (zw hl).elim
end Go.AM

/- Functions on the abstract machine are what the model's functions do. -/
namespace Go.AM
open Go.RowKit (Below)
variable {P:Program} {N:Nat} {w₀:World} {ρ:Ren} {H:Heap} {w:World} {σ:zu} {n:Nat}
theorem zbuh (h:Rel N w₀ ρ H w) {p p' r:V} {H':Heap} {t:TypeId} (ht:tk P t=some .one) (hl:z8 p H=some (r,H')) (hp:VRel ρ p p') :
  H'=H∧∃ a r',p' = .pointer (some a)∧VRel ρ r r'∧(loadVar t a).run P w = .ok r' w:=by
 obtain⟨h1,r',h2,h3⟩:=zbf2 (P:=P) h ht hl hp
 unfold z8 at hl
 split at hl
 ·obtain⟨L,hL,rfl⟩:=hp.ptr_inv
  exact⟨h1,_,r',rfl,h2,by simpa[Instr.loadAt,Instr.sureAddr] using h3⟩
 ·cases hl
theorem zbui (h:Rel N w₀ ρ H w) {p p' r:V} {H':Heap} {t:TypeId} {m:Nat} (ht:tk P t=some (.agg m)) (hl:ldn m p H=some (r,H')) (hp:VRel ρ p p') :
  H'=H∧∃ a r',p' = .pointer (some a)∧VRel ρ r r'∧(loadVar t a).run P w = .ok r' w:=by
 obtain⟨h1,r',h2,h3⟩:=zbf3 (P:=P) h ht hl hp
 unfold ldn at hl
 split at hl
 ·obtain⟨L,hL,rfl⟩:=hp.ptr_inv
  exact⟨h1,_,r',rfl,h2,by simpa[Instr.loadAt,Instr.sureAddr] using h3⟩
 ·cases hl
def z9r (tmps:Array V):ResultVar→Sem V
 | .tmp t=>pure (tmps.getD t undef)
 | .cell a t=>do loadVar t (← asAddr (tmps.getD a undef))
theorem z7u (h:Rel N w₀ ρ H w) {e:Env} {a:Act} (he:∀ t,VRel ρ (e t) (a.tmps.getD t undef)):∀ (rs:List ResultVar) (k:List V→M V) (r:V) (H':Heap),resM P e rs k H=some (r,H') →
  ∃ l l',LRel ρ l l'∧k l H=some (r,H')∧(rs.mapM (z9r a.tmps)).run P w = .ok l' w
 | [],k,r,H',hl=>⟨[],[],.nil,hl,by simp⟩
 | .tmp t :: rs,k,r,H',hl=>by
  simp only[resM] at hl
  obtain⟨l,l',h1,h2,h3⟩:=z7u h he rs _ r H' hl
  exact⟨e t :: l,a.tmps.getD t undef :: l',.cons (he t) h1,h2,by simp[z9r,h3]⟩
 | .cell x t :: rs,k,r,H',hl=>by
  simp only[resM] at hl
  cases hk:tk P t with
  | none=>rw[hk] at hl;exact (zw hl).elim
  | some kd =>
   rw[hk] at hl
   cases kd with
   | one =>
    simp only at hl
    obtain⟨v,H1,g1,g2⟩:=z3u hl
    obtain⟨e1,ad,v',q1,q2,q3⟩:=zbuh (P:=P) h hk g1 (he x)
    rw[e1] at g2
    obtain⟨l,l',h1,h2,h3⟩:=z7u h he rs _ r H' g2
    exact⟨v :: l,v' :: l',.cons q2 h1,h2,by simp[z9r,q1,asAddr,q3,h3]⟩
   | agg m =>
    simp only at hl
    obtain⟨v,H1,g1,g2⟩:=z3u hl
    obtain⟨e1,ad,v',q1,q2,q3⟩:=zbui (P:=P) h hk g1 (he x)
    rw[e1] at g2
    obtain⟨l,l',h1,h2,h3⟩:=z7u h he rs _ r H' g2
    exact⟨v :: l,v' :: l',.cons q2 h1,h2,by simp[z9r,q1,asAddr,q3,h3]⟩
theorem zbrm {l l':List V} (h:LRel ρ l l'):VRel ρ (zbh l) (if hs:l'.toArray.size=1 then l'.toArray[0] else .tuple l'.toArray):=by
 cases h with
 | nil=>simp[zbh];exact .undef _
 | cons h1 h2 =>
  cases h2 with
  | nil=>simpa[zbh] using h1
  | cons h2 h3 =>
   rw[dif_neg (by simp)]
   simp only[zbh]
   exact .tuple' (by simpa using LRel.cons h1 (LRel.cons h2 h3))
theorem zbpg {args args':List V} (h:LRel ρ args args') (m:Nat) (t:Nat):VRel ρ (envOf args t) ((args'.toArray ++ Array.replicate m undef).getD t undef):=by
 unfold envOf
 rw[Array.getD_eq_getD_getElem?,List.getD_eq_getElem?_getD]
 by_cases ht:t < args.length
 ·obtain⟨v',h1,h2⟩:=h.get t args[t] (by simp[ht])
  have hl:=h.length
  rw[List.getElem?_eq_getElem ht]
  simp only[Option.getD_some]
  rw[Array.getElem?_append,if_pos (by simp;omega)]
  simp only[List.getElem?_toArray,h1,Option.getD_some]
  exact h2
 ·rw[List.getElem?_eq_none (by omega)]
  exact .undef _
theorem zbph {f:FuncId} {hint:Hint} (hσ:zd3 P σ):SimF P f (funM P σ f hint):=by
 intro N w₀ ρ H w args args' r H' hG h ha hl
 unfold funM at hl
 cases hf:P.funcs[f]? with
 | none=>rw[hf] at hl;exact (zw hl).elim
 | some fn =>
  rw[hf] at hl
  simp only at hl
  cases hb:fn.body with
  | none=>rw[hb] at hl;exact (zw hl).elim
  | some c =>
   rw[hb] at hl
   simp only at hl
   cases hle:Nat.ble args.length fn.ntmps with
   | false=>rw[hle] at hl;simp only[cond_false] at hl;exact (zw hl).elim
   | true =>
    rw[hle] at hl
    simp only[cond_true] at hl
    have hlen:args.length≤fn.ntmps:=Nat.le_of_ble_eq_true hle
    have hal:=ha.length
    obtain⟨o,H1,h1,h2⟩:=z3u hl
    refine calls_of_wp hf hb ?_
    have he:EnvRel fn.ntmps ρ (envOf args) { tmps:=args'.toArray ++ Array.replicate (fn.ntmps - args'.toArray.size) undef,defers:=[] } :=
     ⟨by simp;omega,fun t=>zbpg ha _ t⟩
    have fin:∀ (vs:List V) (ρ':Ren) (w':World) (a':Act),Rel N w₀ ρ' H1 w'→Ext ρ H w ρ' H1 w'→a'.defers=[]→zbcs (zo1 fn.results.toList) vs ρ' a' →
      (resM P (z08 (zo1 fn.results.toList) vs) fn.results.toList fun l=>ret (zbh l)) H1=some (r,H') →
      a'.defers=[]∧∃ v,(results fn a'.tmps).run P w' = .ok v w'∧∃ r',Ending.returned v = .returned r'∧zv2 N w₀ ρ H w r H' r' w':=by
     intro vs ρ' w' a' q1 q2 q3 q4 q5
     obtain⟨l,l',g1,g2,g3⟩:=z7u (P:=P) q1 (zzh (n:=a'.tmps.size) rfl q4).slot fn.results.toList _ r H' q5
     simp only[ret] at g2;cases g2
     refine⟨q3,_,?_,_,rfl,ρ',zbrm g1,q1,q2⟩
     have hm:=z09 (P:=P) (z9r a'.tmps) fn.results l' w' g3
     have heq:results fn a'.tmps=(do
      let vs ← fn.results.mapM (z9r a'.tmps)
      pure (if h:vs.size=1 then vs[0] else .tuple vs)):=by
      unfold results
      congr 1
     rw[heq]
     simp only[Sem.run_bind,hm,Result.andThen_ok,Sem.run_pure]
    refine zbpf hσ hG (zo1 fn.results.toList) c hint [] (zo1 fn.results.toList) ρ H w (envOf args) _ o H1 _ h he h1 fun ρ' w' a' ex q1 q2 q3 q4 q5=>?_
    cases o with
    | nxt vs=>obtain⟨rfl,hs⟩:=q5;exact fin vs ρ' w' a' q1 q2 q4 hs h2
    | ret vs=>obtain⟨rfl,hs⟩:=q5;exact fin vs ρ' w' a' q1 q2 q4 hs h2
    | brk id vs=>simp only[zbl] at h2;exact (zw h2).elim
def zbn0:List (Nat × (List V→M V))→zu
 | []=>fun _ _=>fail
 | (g,F) :: rest=>fun f=>bif Nat.beq f g then F else zbn0 rest f
def zq (P:Program) (f:Nat) (F:List V→M V):Prop:=zuk P f=true∧SimF P f F
theorem zbme:zd3 P (zbn0 []):=fun f args H r H' h=>by simp[zbn0,fail] at h
theorem z1k {f:Nat} {hint:Hint} {G:List V→M V} (hp:zuk P f=true) (hσ:zd3 P σ) (h:∀ args H r H',G args H=some (r,H')→funM P σ f hint args H=some (r,H')):zq P f G :=
 ⟨hp,fun N w₀ ρ H w args args' r H' hG hR ha hl=>zbph hσ N w₀ ρ H w args args' r H' hG hR ha (h args H r H' hl)⟩
abbrev ap0 (F:M V):List V→M V
 | []=>F
 | _=>fail
theorem kn0 {f:Nat} {hint:Hint} {F:M V} (hp:zuk P f=true) (hσ:zd3 P σ) (h:funM P σ f hint []=F):zq P f (ap0 F):=z1k (hint:=hint) hp hσ fun l H r H' g=>by
 unfold ap0 at g;split at g
 ·rw[h];exact g
 ·exact (zw g).elim
abbrev ap1 (F:V→M V):List V→M V
 | [x0]=>F x0
 | _=>fail
theorem kn1 {f:Nat} {hint:Hint} {F:V→M V} (hp:zuk P f=true) (hσ:zd3 P σ) (h:∀ x0:V,funM P σ f hint [x0]=F x0):zq P f (ap1 F):=z1k (hint:=hint) hp hσ fun l H r H' g=>by
 unfold ap1 at g;split at g
 ·rw[h];exact g
 ·exact (zw g).elim
abbrev ap2 (F:V→V→M V):List V→M V
 | [x0,x1]=>F x0 x1
 | _=>fail
theorem kn2 {f:Nat} {hint:Hint} {F:V→V→M V} (hp:zuk P f=true) (hσ:zd3 P σ) (h:∀ x0 x1:V,funM P σ f hint [x0,x1]=F x0 x1):zq P f (ap2 F):=z1k (hint:=hint) hp hσ fun l H r H' g=>by
 unfold ap2 at g;split at g
 ·rw[h];exact g
 ·exact (zw g).elim
abbrev ap3 (F:V→V→V→M V):List V→M V
 | [x0,x1,x2]=>F x0 x1 x2
 | _=>fail
theorem kn3 {f:Nat} {hint:Hint} {F:V→V→V→M V} (hp:zuk P f=true) (hσ:zd3 P σ) (h:∀ x0 x1 x2:V,funM P σ f hint [x0,x1,x2]=F x0 x1 x2):zq P f (ap3 F):=z1k (hint:=hint) hp hσ fun l H r H' g=>by
 unfold ap3 at g;split at g
 ·rw[h];exact g
 ·exact (zw g).elim
abbrev ap4 (F:V→V→V→V→M V):List V→M V
 | [x0,x1,x2,x3]=>F x0 x1 x2 x3
 | _=>fail
theorem kn4 {f:Nat} {hint:Hint} {F:V→V→V→V→M V} (hp:zuk P f=true) (hσ:zd3 P σ) (h:∀ x0 x1 x2 x3:V,funM P σ f hint [x0,x1,x2,x3]=F x0 x1 x2 x3):zq P f (ap4 F):=z1k (hint:=hint) hp hσ fun l H r H' g=>by
 unfold ap4 at g;split at g
 ·rw[h];exact g
 ·exact (zw g).elim
end Go.AM

/- What the printed functions are written with. -/
namespace Go.AM
def zd (vs:List V) (i:Nat):V:=vs.getD i undef
def strV (a:V):Option V:=match a with | .string s=>some (.string s) | _=>none
def zfx (a:V):Option V:=match a with | .string s=>some (i64 s.size) | _=>none
def zv (a:V):Option V:=match a with | .slice _ n _=>some (i64 n) | _=>none
def zc9 {R:Type} (m:M V) (k:Heap→V→Heap→M R):M R:=fun H=>match m H with | some (v,H')=>k H v H' H' | none=>none
def zul {R:Type} (n:Nat) (k:Nat→Heap→M R):M R:=fun H=>k H.next (ztg H n) (ztg H n)
def zm9 {R:Type} (k:Heap→M R):M R:=fun H=>k H H
abbrev noC:zu:=zbn0 []
def ovr:List (Nat × (List V→M V))→zu→zu
 | [],S=>S
 | (g,F) :: rest,S=>fun f=>bif Nat.beq f g then F else ovr rest S f
theorem zf {P:Program} {S:zu} {g:Nat} {F:List V→M V} {l:List (Nat × (List V→M V))} (h:zq P g F) (hl:zd3 P (ovr l S)):zd3 P (ovr ((g,F) :: l) S):=by
 intro f args H r H' hr
 simp only[ovr] at hr ⊢
 cases hb:Nat.beq f g with
 | true =>
  have:=Nat.eq_of_beq_eq_true hb;subst this
  simp only[cond_true];exact h
 | false =>
  rw[hb] at hr
  simp only[cond_false] at hr ⊢
  exact hl f args H r H' hr
theorem zl {P:Program}:zd3 P (ovr [] noC):=zbme
theorem zea {P:Program} {S:zu} (h:zd3 P S):zd3 P (ovr [] S):=h
@[simp] theorem zbzh (g:Nat) (F:List V→M V) (l:List (Nat × (List V→M V))) (S:zu) (x y:Array V) (args:List V):zmm (ovr ((g,F) :: l) S) (.func (.func g) x y) args=F (x.toList ++ (args ++ y.toList)):=by
 simp[zmm,ovr]
end Go.AM

/- How runs on the abstract machine are told. -/
namespace Go.AM
def wp {α:Type} (m:M α) (Q:α→Heap→Prop) (H:Heap):Prop:=∃ a H',m H=some (a,H')∧Q a H'
variable {α β:Type} {Q:α→Heap→Prop} {H:Heap}
theorem z7v {m:M α} {Q':α→Heap→Prop} (h:wp m Q H) (hq:∀ a H',Q a H'→Q' a H'):wp m Q' H:=by
 obtain⟨a,H',h1,h2⟩:=h;exact⟨a,H',h1,hq a H' h2⟩
@[simp] theorem wp_ret (a:α):wp (ret a) Q H↔Q a H:=⟨fun ⟨_,_,h1,h2⟩=>by cases h1;exact h2,fun h=>⟨a,H,rfl,h⟩⟩
@[simp] theorem z6 {m:M β} {k:β→M α}:wp (zb m k) Q H↔wp m (fun b H'=>wp (k b) Q H') H:=by
 constructor
 ·rintro⟨a,H',h1,h2⟩
  obtain⟨b,H1,h3,h4⟩:=bnd_inv' h1
  exact⟨b,H1,h3,a,H',h4,h2⟩
 ·rintro⟨b,H1,h3,a,H',h4,h2⟩
  exact⟨a,H',by simp[zb,h3,h4],h2⟩
where
 bnd_inv' {m:M β} {k:β→M α} {r:α} {H':Heap} (h:zb m k H=some (r,H')):∃ b H1,m H=some (b,H1)∧k b H1=some (r,H'):=by
  unfold zb at h
  split at h
  ·rename_i b H1 hm;exact⟨b,H1,hm,h⟩
  ·cases h
def wpO (o:Option α) (Q:α→Prop):Prop:=∃ a,o=some a∧Q a
@[simp] theorem zum (a:α) (Q:α→Prop):wpO (some a) Q↔Q a:=by simp[wpO]
@[simp] theorem zbzx (Q:α→Prop):wpO none Q↔False:=by simp[wpO]
@[congr] theorem zbzi {o o':Option α} {Q:α→Prop} (h:o=o'):wpO o Q=wpO o' Q:=by rw[h]
@[congr] theorem zbzy {m m':M α} {Q:α→Heap→Prop} {H:Heap} (h:m=m'):wp m Q H=wp m' Q H:=by rw[h]
@[congr] theorem zbzj {m m':M β} {k:β→M α} (h:m=m'):zb m k=zb m' k:=by rw[h]
@[congr] theorem zbxy {R:Type} {m m':M V} {k:Heap→V→Heap→M R} (h:m=m'):zc9 m k=zc9 m' k:=by rw[h]
@[congr] theorem zbxz {b b':Bool} {m:M α} (h:b=b'):zjs b m=zjs b' m:=by rw[h]
@[congr] theorem zbw4 {c c':V} {m1 m2:M Out} (h:c=c'):zn c m1 m2=zn c' m1 m2:=by rw[h]
@[congr] theorem zbzz {g g':V} {b:Bool} {m:M V} (h:g=g'):gd g b m=gd g' b m:=by rw[h]
@[congr] theorem zbz0 {o o':Out} {k:List V→M Out} (h:o=o'):nx o k=nx o' k:=by rw[h]
@[congr] theorem zbx0 {o o':Out} {k:List V→M V} (h:o=o'):zbl o k=zbl o' k:=by rw[h]
@[congr] theorem zbw5 {n:Nat} {body:List V→M Out} {vs vs':List V} (h:vs=vs'):zbg n body vs=zbg n body vs':=by rw[h]
@[simp] theorem zzi (o:Option α):wp (za o) Q H↔wpO o fun a=>Q a H:=by
 unfold wpO
 cases o with
 | none=>simp[wp,za]
 | some a=>exact⟨fun ⟨_,_,h1,h2⟩=>by cases h1;exact⟨_,rfl,h2⟩,fun ⟨_,h1,h2⟩=>by cases h1;exact⟨_,_,rfl,h2⟩⟩
@[simp] theorem zb01:wp (fail:M α) Q H↔False:=by simp[wp,fail]
@[simp] theorem zbuj (m:M α):wp (zjs true m) Q H↔wp m Q H:=by simp[wp,zjs]
@[simp] theorem zbx1 (m1 m2:M Out):zn (.bool true) m1 m2=m1:=rfl
@[simp] theorem zbw6 (m1 m2:M Out):zn (.bool false) m1 m2=m2:=rfl
@[simp] theorem zbuk {R:Type} {m:M V} {k:Heap→V→Heap→M R} {Q:R→Heap→Prop}:wp (zc9 m k) Q H↔wp m (fun v H'=>wp (k H v H') Q H') H:=by
 constructor
 ·rintro⟨a,H',h1,h2⟩
  unfold zc9 at h1
  split at h1
  ·rename_i b H1 hm;exact⟨b,H1,hm,a,H',h1,h2⟩
  ·cases h1
 ·rintro⟨b,H1,h3,a,H',h4,h2⟩
  exact⟨a,H',by simp[zc9,h3,h4],h2⟩
@[simp] theorem zbrn {R:Type} {k:Heap→M R} {Q:R→Heap→Prop}:wp (zm9 k) Q H↔wp (k H) Q H:=by simp[zm9,wp]
@[simp] theorem zrr {R:Type} {n:Nat} {k:Nat→Heap→M R} {Q:R→Heap→Prop}:wp (zul n k) Q H↔wp (k H.next (ztg H n)) Q (ztg H n):=by simp[zul,wp]
@[simp] theorem zb02 (b:Bool) (m:M V):gd (.bool b) true m=if b then m else ret zox:=by cases b <;> simp[gd]
@[simp] theorem zbz1 (b:Bool) (m:M V):gd (.bool b) false m=if b then ret zox else m:=by cases b <;> simp[gd]
@[simp] theorem zbul (b:Bool) (m:M V):gd zox b m=ret zox:=rfl
@[simp] theorem zbx2 (vs:List V) (k:List V→M Out):nx (.nxt vs) k=k vs:=rfl
@[simp] theorem zbx3 (i:Nat) (vs:List V) (k:List V→M Out):nx (.brk i vs) k=ret (.brk i vs):=rfl
@[simp] theorem zbx4 (vs:List V) (k:List V→M Out):nx (.ret vs) k=ret (.ret vs):=rfl
@[simp] theorem zbpi (i:Nat) (vs:List V):zz i (.nxt vs) = .nxt vs:=rfl
@[simp] theorem zbpj (i:Nat) (vs:List V):zz i (.ret vs) = .ret vs:=rfl
@[simp] theorem zbpk (i j:Nat) (vs:List V):zz i (.brk j vs)=if j=i then .nxt vs else .brk j vs:=by
 simp only[zz]
 by_cases h:j=i
 ·subst h;simp
 ·rw[zbf7 h];simp[h]
@[simp] theorem zbro (vs:List V) (k:List V→M V):zbl (.nxt vs) k=k vs:=rfl
@[simp] theorem zbrp (vs:List V) (k:List V→M V):zbl (.ret vs) k=k vs:=rfl
@[simp] theorem zbbu (v:V) (vs:List V):zd (v :: vs) 0=v:=rfl
@[simp] theorem zbhe (v:V) (vs:List V) (i:Nat):zd (v :: vs) (i + 1)=zd vs i:=by simp[zd]
@[simp] theorem zbrq (v:V):zbh [v]=v:=rfl
theorem zl4 {body:List V→M Out} {vs:List V} {Q:Out→Heap→Prop} (Inv:Nat→List V→Heap→Prop) {n:Nat} (hn:n < zby) (h0:Inv n vs H)
  (hstep:∀ k vs H,Inv k vs H→wp (body vs) (fun o H'=>match o with | .nxt vs'=>∃ k',k' < k∧Inv k' vs' H' | o=>Q o H') H):wp (zbg zby body vs) Q H:=by
 have key:∀ m k vs H,k < m→Inv k vs H→wp (zbg m body vs) Q H:=by
  intro m
  induction m with
  | zero=>intro k vs H h;omega
  | succ m ih =>
   intro k vs H hk hi
   simp only[zbg,z6]
   refine z7v (hstep k vs H hi) fun o H' ho=>?_
   cases o with
   | nxt vs'=>obtain⟨k',h1,h2⟩:=ho;exact ih k' vs' H' (by omega) h2
   | brk i vs'=>simpa using ho
   | ret vs'=>simpa using ho
 exact key zby n vs H hn h0
abbrev U (x:BitVec 32):V := .int .u32 x.toNat
abbrev W (x:BitVec 64):V := .int .u64 x.toNat
abbrev B (x:BitVec 8):V := .int .u8 x.toNat
abbrev str (s:ByteArray):V := .string s
theorem zbgc (n:Int):IntKind.u32.wrap n=((BitVec.ofInt 32 n).toNat:Int):=by rw[IntKind.wrap_u32];simp[BitVec.toNat_ofInt];omega
theorem zbw7 (n:Int):IntKind.u64.wrap n=((BitVec.ofInt 64 n).toNat:Int):=by rw[IntKind.wrap_u64];simp[BitVec.toNat_ofInt];omega
theorem zbrr (n:Int):IntKind.u8.wrap n=((BitVec.ofInt 8 n).toNat:Int):=by rw[IntKind.wrap_u8];simp[BitVec.toNat_ofInt];omega
theorem zhy (n:Nat) (m:Nat):BitVec.ofInt n (m:Int)=BitVec.ofNat n m:=BitVec.ofInt_natCast n m
theorem zbum (a n m:Nat) (h:a < 2 ^ m):(a:Int).fdiv (2 ^ (min n m))=((a >>> n:Nat):Int):=by
 rw[Int.fdiv_eq_ediv_of_nonneg _ (Int.le_of_lt (Int.pow_pos (by omega))),Nat.shiftRight_eq_div_pow]
 by_cases hn:n≤m
 ·rw[Nat.min_eq_left hn];norm_cast
 ·rw[Nat.min_eq_right (by omega)]
  have h1:a < 2 ^ n:=Nat.lt_trans h (Nat.pow_lt_pow_right (by omega) (by omega))
  rw[Nat.div_eq_of_lt h1]
  have:((a:Int) / 2 ^ m)=((a / 2 ^ m:Nat):Int):=by norm_cast
  rw[this,Nat.div_eq_of_lt h]
@[simp] theorem zb03 (x y:BitVec 32):zy .add (U x) (U y)=some (U (x + y)):=by
 simp[zy,z05,zbgc,← Int.natCast_add,zhy]
@[simp] theorem zb04 (x y:BitVec 32):zy .and (U x) (U y)=some (U (x &&& y)):=by
 simp[zy,z05,z69,zbgc,zhy,IntKind.bits];rfl
@[simp] theorem zb1j (x y:BitVec 32):zy .or (U x) (U y)=some (U (x ||| y)):=by
 simp[zy,z05,z69,zbgc,zhy,IntKind.bits];rfl
@[simp] theorem zb05 (x y:BitVec 32):zy .xor (U x) (U y)=some (U (x ^^^ y)):=by
 simp[zy,z05,z69,zbgc,zhy,IntKind.bits];rfl
@[simp] theorem zb06 (x:BitVec 32):un .xor (U x)=some (U (~~~ x)):=by
 have h1:BitVec.ofInt 32 4294967295 ^^^ x = ~~~x:=by rw[show (BitVec.ofInt 32 4294967295)=BitVec.allOnes 32 from rfl,BitVec.allOnes_xor]
 have h2:un .xor (U x)=some (.int .u32 (IntKind.u32.wrap ((BitVec.ofInt 32 4294967295 ^^^ BitVec.ofInt 32 x.toNat).toNat:Int))):=rfl
 rw[h2,zhy,BitVec.ofNat_toNat,BitVec.setWidth_eq,h1,zbgc,zhy,BitVec.ofNat_toNat,BitVec.setWidth_eq]
@[simp] theorem zb1k (x:BitVec 32):cvi .u8 (U x)=some (B (x.setWidth 8)):=by
 simp[cvi,zbrr,zhy]
@[simp] theorem zb1l (x:BitVec 8):cvi .u32 (B x)=some (U (x.setWidth 32)):=by
 simp[cvi,zbgc,zhy]
@[simp] theorem zb07 (x y:BitVec 64):zy .mul (W x) (W y)=some (W (x * y)):=by
 simp[zy,z05,zbw7,← Int.natCast_mul,zhy]
@[simp] theorem zb1m (x:BitVec 64):cvi .u8 (W x)=some (B (x.setWidth 8)):=by
 simp[cvi,zbrr,zhy]
@[simp] theorem zb08 (x:Nat):cvi .u64 (i64 x)=some (W (BitVec.ofNat 64 x)):=by
 simp[cvi,zbw7,zhy]
@[simp] theorem zb1n (x:BitVec 8):cvi .i64 (B x)=some (i64 x.toNat):=by
 have:=x.isLt
 simp only[cvi];rw[IntWalk.i64_in _ ⟨by omega,by omega⟩]
theorem i64_in {n:Int} (h0:-9223372036854775808≤n) (h1:n≤9223372036854775807):IntKind.i64.wrap n=n:=IntWalk.i64_in n ⟨h0,h1⟩
@[simp] theorem zbun (x y:Int):zy .add (i64 x) (i64 y)=some (i64 (IntKind.i64.wrap (x + y))):=rfl
@[simp] theorem zbuo (x y:Int):zy .sub (i64 x) (i64 y)=some (i64 (IntKind.i64.wrap (x - y))):=rfl
@[simp] theorem zbup (x y:Int):zy .mul (i64 x) (i64 y)=some (i64 (IntKind.i64.wrap (x * y))):=rfl
@[simp] theorem zb09 (k:IntKind) (x y:Int):zy .eql (.int k x) (.int k y)=some (.bool (x == y)):=by simp[zy,z05]
@[simp] theorem zb1a (k:IntKind) (x y:Int):zy .neq (.int k x) (.int k y)=some (.bool (x != y)):=by simp[zy,z05]
@[simp] theorem zbuq (k:IntKind) (x y:Int):zy .lss (.int k x) (.int k y)=some (.bool (decide (x < y))):=by simp[zy,z05]
@[simp] theorem zbur (k:IntKind) (x y:Int):zy .leq (.int k x) (.int k y)=some (.bool (decide (x≤y))):=by simp[zy,z05]
@[simp] theorem zbus (k:IntKind) (x y:Int):zy .gtr (.int k x) (.int k y)=some (.bool (decide (x > y))):=by simp[zy,z05]
@[simp] theorem zbut (k:IntKind) (x y:Int):zy .geq (.int k x) (.int k y)=some (.bool (decide (x≥y))):=by simp[zy,z05]
@[simp] theorem zb1b (x y:ByteArray):zy .eql (.string x) (.string y)=some (.bool (decide (x=y))):=rfl
@[simp] theorem zb1c (x y:ByteArray):zy .neq (.string x) (.string y)=some (.bool (!decide (x=y))):=rfl
@[simp] theorem zbzk (b:Bool) (x y:V):zbb (.bool b) x y=some (if b then x else y):=by cases b <;> rfl
@[simp] theorem zbz2 (b:Bool):un .not (.bool b)=some (.bool (!b)):=rfl
namespace Heap
@[simp] theorem get_push_self (H:Heap) (x:Option Blk):(H.push x).get H.next=x:=by
 rw[Heap.get_push];simp
theorem get_push_lt {H:Heap} {x:Option Blk} {b:Nat} (h:b < H.next):(H.push x).get b=H.get b:=by
 rw[Heap.get_push,if_neg (by omega)]
@[simp] theorem next_push' (H:Heap) (x:Option Blk):(H.push x).next=H.next + 1:=Heap.next_push H x
@[simp] theorem next_set' (H:Heap) (b:Nat) (x:Option Blk):(H.set b x).next=H.next:=Heap.next_set H b x
theorem get_set_self {H:Heap} {b:Nat} {x:Option Blk} (h:b < H.next):(H.set b x).get b=x:=by
 rw[Heap.get_set H b x _ h];simp
theorem zx4 (H:Heap) (b:Nat) (x:Option Blk) (c:Nat):(H.set b x).get c=if c=b∧b < H.next then x else H.get c:=BT.get_set b x c H.ok
@[simp] theorem set_set (H:Heap) (b:Nat) (x y:Option Blk):(H.set b x).set b y=H.set b y:=by
 refine Heap.same rfl fun c _=>?_
 rw[zx4,zx4,zx4,show (H.set b x).next=H.next from rfl]
 by_cases h:c=b∧b < H.next
 ·rw[if_pos h,if_pos h]
 ·rw[if_neg h,if_neg h,if_neg h]
end Heap
def zqq (H:Heap) (p:V):Option V:=match p with | .pointer (some ⟨b,o,none⟩)=>H.cell b o | _=>none
@[simp] theorem zbx5 (p:V) {Q:V→Heap→Prop}:wp (z8 p) Q H↔wpO (zqq H p) fun v=>Q v H:=by
 unfold wp wpO z8 zqq
 constructor
 ·rintro⟨a,H',h1,h2⟩
  split at h1
  ·split at h1
   ·rename_i v hc;cases h1;exact⟨_,hc,h2⟩
   ·cases h1
  ·cases h1
 ·rintro⟨a,h1,h2⟩
  split at h1
  ·exact⟨a,H,by simp[h1],h2⟩
  ·cases h1
theorem z3w {b o:Nat} {rw:Bool} {cs:List V} (h:H.get b=some (.cells rw cs)):zqq H (ptr b o)=cs[o]? := by simp[zqq,Heap.cell,h]
theorem z57 {b o u len cap size:Nat} {k:IntKind} {i:Int} (h0:0≤i) (h1:i < len):zx size (slc b o u len cap) (.int k i)=some (ptr b (o + i.toNat * size)):=by simp[zx,h0,h1]
theorem zbcu {b o n size:Nat} {k:IntKind} {i:Int} (h0:0≤i) (h1:i < n):zmu n size (ptr b o) (.int k i)=some (ptr b (o + i.toNat * size)):=by simp[zmu,h0,h1]
@[simp] theorem zbpl (b o off:Nat):zg off (ptr b o)=some (ptr b (o + off)):=rfl
@[simp] theorem zbpm (b o:Nat):zci (ptr b o)=some (ptr b o):=rfl
@[simp] theorem zx5 (k:IntKind) (n:Int):(Value.int k n).isOne=true:=rfl
@[simp] theorem zx6 (s:ByteArray):(Value.string s).isOne=true:=rfl
@[simp] theorem zun (b:Bool):(Value.bool b).isOne=true:=rfl
@[simp] theorem zrs (a:Option Addr) (n c:Nat):(Value.slice a n c).isOne=true:=rfl
@[simp] theorem zna (a:Option Addr):(Value.pointer a).isOne=true:=rfl
@[simp] theorem zx7 (a:Option Nat):(Value.map a).isOne=true:=rfl
theorem zbrs {b o:Nat} {cs:List V} {v:V} (h:H.get b=some (.cells true cs)) (hv:v.isOne=true) (ho:o < cs.length) {Q:V→Heap→Prop} :
  wp (st1 (ptr b o) v) Q H↔Q undef (H.set b (some (.cells true (cs.set o v)))):=by
 constructor
 ·rintro⟨a,H',h1,h2⟩
  simp[st1,h,hv,ho] at h1
  obtain⟨rfl,rfl⟩:=h1;exact h2
 ·intro hq;exact⟨_,_,by simp[st1,h,hv,ho],hq⟩
theorem zbrt {b o n:Nat} {rw:Bool} {cs:List V} (h:H.get b=some (.cells rw cs)) (ho:o + n≤cs.length) {Q:V→Heap→Prop} :
  wp (ldn n (ptr b o)) Q H↔Q (.agg ((cs.drop o).take n).toArray) H:=by
 constructor
 ·rintro⟨a,H',h1,h2⟩
  simp[ldn,cellsAt,h,ho] at h1
  obtain⟨rfl,rfl⟩:=h1;exact h2
 ·intro hq;exact⟨_,_,by simp[ldn,cellsAt,h,ho],hq⟩
theorem z3x {cs:List V} (h:cs.all zfv=true) {Q:V→Heap→Prop}:wp (newc cs) Q H↔Q (ptr H.next 0) (H.push (some (.cells true cs))):=by
 constructor
 ·rintro⟨a,H',h1,h2⟩
  simp only[newc,h,if_true] at h1
  cases h1;exact h2
 ·intro hq;exact⟨_,_,by simp only[newc,h,if_true],hq⟩
@[simp] theorem zbjw {Q:V→Heap→Prop}:wp zub Q H↔Q (.map (some H.next)) (H.push (some (.map true []))) :=
 ⟨fun ⟨_,_,h1,h2⟩=>by cases h1;exact h2,fun h=>⟨_,_,rfl,h⟩⟩
@[simp] theorem zbhf (a:Option Addr) (n c:Nat):zv (.slice a n c)=some (i64 n):=rfl
@[simp] theorem zbmf (s:ByteArray):zfx (.string s)=some (i64 s.size):=rfl
@[simp] theorem zbru (s:ByteArray):strV (.string s)=some (.string s):=rfl
theorem zfq {size len:Nat} {zero cs:List V} {parts:List (Nat × Nat × V)} (h:zero.all zfv=true) (hc:zbu zero parts=some cs) {Q:V→Heap→Prop} :
  wp (zd2 size len zero parts) Q H↔Q (slc H.next 0 size len len) (H.push (some (.cells true cs))):=by
 constructor
 ·rintro⟨a,H',h1,h2⟩
  simp only[zd2,h,if_true,hc] at h1
  cases h1;exact h2
 ·intro hq;exact⟨_,_,by simp only[zd2,h,if_true,hc],hq⟩
def zjh (o:Option V) (v:V):Bool:=match o with | some v'=>vEq v' v | none=>false
@[congr] theorem zbx6 {o o':Option V} {v:V} (h:o=o'):zjh o v=zjh o' v:=by rw[h]
theorem zbx7 (p:V) (H:Heap):z8 p H=match zqq H p with | some v=>some (v,H) | none=>none:=by
 cases p <;> try rfl
 rename_i a
 cases a with
 | none=>rfl
 | some a=>obtain⟨b,o,s⟩:=a;cases s <;> rfl
theorem zbuu (p:V) (H:Heap) (v:V):chk (z8 p) H v=zjh (zqq H p) v:=by
 unfold chk zjh
 rw[zbx7]
 cases zqq H p <;> rfl
@[simp] theorem z1l (k:IntKind) (n:Int):zjh (some (.int k n)) (.int k n)=true:=by simp[zjh,vEq]
@[simp] theorem zx8 (b:Bool):zjh (some (.bool b)) (.bool b)=true:=by simp[zjh,vEq]
@[simp] theorem z1m (s:ByteArray):zjh (some (.string s)) (.string s)=true:=by simp[zjh,vEq]
@[simp] theorem z1n (a:Option Addr):zjh (some (.pointer a)) (.pointer a)=true:=by simp[zjh,vEq]
@[simp] theorem z1o (a:Option Addr) (n c:Nat):zjh (some (.slice a n c)) (.slice a n c)=true:=by simp[zjh,vEq]
@[simp] theorem z1p (a:Option Nat):zjh (some (.map a)) (.map a)=true:=by simp[zjh,vEq]
@[simp] theorem zb1d (v:V) (H:Heap):chk (ret v) H v=vEq v v:=rfl
end Go.AM
