import Derived.Test.YtjchglndancedaaGreatDoorAmCode
import Derived.IntWalk
set_option linter.all false
/- Functions on the abstract machine are what the model's functions do. -/
namespace Go.AM
open Go.RowKit (Below)
variable {P:Program} {N:Nat} {w₀:World} {ρ:Ren} {H:Heap} {w:World} {σ:zv} {n:Nat}
theorem zb08 (h:Rel N w₀ ρ H w) {p p' r:V} {H':Heap} {t:TypeId} (ht:tk P t=some .one) (hl:zz p H=some (r,H')) (hp:VRel ρ p p') :
  H'=H∧∃ a r',p' = .pointer (some a)∧VRel ρ r r'∧(loadVar t a).run P w = .ok r' w:=by
 obtain⟨h1,r',h2,h3⟩:=zbmz (P:=P) h ht hl hp
 unfold zz at hl
 split at hl
 ·obtain⟨L,hL,rfl⟩:=hp.ptr_inv
  exact⟨h1,_,r',rfl,h2,by simpa[Instr.loadAt,Instr.sureAddr] using h3⟩
 ·cases hl
theorem zb09 (h:Rel N w₀ ρ H w) {p p' r:V} {H':Heap} {t:TypeId} {m:Nat} (ht:tk P t=some (.agg m)) (hl:ldn m p H=some (r,H')) (hp:VRel ρ p p') :
  H'=H∧∃ a r',p' = .pointer (some a)∧VRel ρ r r'∧(loadVar t a).run P w = .ok r' w:=by
 obtain⟨h1,r',h2,h3⟩:=zbm0 (P:=P) h ht hl hp
 unfold ldn at hl
 split at hl
 ·obtain⟨L,hL,rfl⟩:=hp.ptr_inv
  exact⟨h1,_,r',rfl,h2,by simpa[Instr.loadAt,Instr.sureAddr] using h3⟩
 ·cases hl
def zbgk (tmps:Array V):ResultVar→Sem V
 | .tmp t=>pure (tmps.getD t undef)
 | .cell a t=>do loadVar t (← asAddr (tmps.getD a undef))
theorem zbed (h:Rel N w₀ ρ H w) {e:Env} {a:Act} (he:∀ t,VRel ρ (e t) (a.tmps.getD t undef)):∀ (rs:List ResultVar) (k:List V→M V) (r:V) (H':Heap),resM P e rs k H=some (r,H') →
  ∃ l l',LRel ρ l l'∧k l H=some (r,H')∧(rs.mapM (zbgk a.tmps)).run P w = .ok l' w
 | [],k,r,H',hl=>⟨[],[],.nil,hl,by simp⟩
 | .tmp t :: rs,k,r,H',hl=>by
  simp only[resM] at hl
  obtain⟨l,l',h1,h2,h3⟩:=zbed h he rs _ r H' hl
  exact⟨e t :: l,a.tmps.getD t undef :: l',.cons (he t) h1,h2,by simp[zbgk,h3]⟩
 | .cell x t :: rs,k,r,H',hl=>by
  simp only[resM] at hl
  cases hk:tk P t with
  | none=>rw[hk] at hl;exact (z1 hl).elim
  | some kd =>
   rw[hk] at hl
   cases kd with
   | one =>
    simp only at hl
    obtain⟨v,H1,g1,g2⟩:=z9i hl
    obtain⟨e1,ad,v',q1,q2,q3⟩:=zb08 (P:=P) h hk g1 (he x)
    rw[e1] at g2
    obtain⟨l,l',h1,h2,h3⟩:=zbed h he rs _ r H' g2
    exact⟨v :: l,v' :: l',.cons q2 h1,h2,by simp[zbgk,q1,asAddr,q3,h3]⟩
   | agg m =>
    simp only at hl
    obtain⟨v,H1,g1,g2⟩:=z9i hl
    obtain⟨e1,ad,v',q1,q2,q3⟩:=zb09 (P:=P) h hk g1 (he x)
    rw[e1] at g2
    obtain⟨l,l',h1,h2,h3⟩:=zbed h he rs _ r H' g2
    exact⟨v :: l,v' :: l',.cons q2 h1,h2,by simp[zbgk,q1,asAddr,q3,h3]⟩
theorem zby2 {l l':List V} (h:LRel ρ l l'):VRel ρ (zbe l) (if hs:l'.toArray.size=1 then l'.toArray[0] else .tuple l'.toArray):=by
 cases h with
 | nil=>simp[zbe];exact .undef _
 | cons h1 h2 =>
  cases h2 with
  | nil=>simpa[zbe] using h1
  | cons h2 h3 =>
   rw[dif_neg (by simp)]
   simp only[zbe]
   exact .tuple' (by simpa using LRel.cons h1 (LRel.cons h2 h3))
theorem zbwy {args args':List V} (h:LRel ρ args args') (m:Nat) (t:Nat):VRel ρ (envOf args t) ((args'.toArray ++ Array.replicate m undef).getD t undef):=by
 unfold envOf
 rw[Array.getD_eq_getD_getElem?,List.getD_eq_getElem?_getD]
 by_cases ht:t < args.length
 ·obtain⟨v',h1,h2⟩:=h.get t args[t] (by simp[ht])
  have hl:=h.length
  rw[List.getElem?_eq_getElem ht]
  simp only[Option.getD_some]
  rw[Array.getElem?_append,if_pos (by simp;omega)]
  simp only[List.getElem?_toArray,h1,Option.getD_some]
  exact h2
 ·rw[List.getElem?_eq_none (by omega)]
  exact .undef _
theorem zbwz {f:FuncId} {hint:Hint} (hσ:zd9 P σ):SimF P f (funM P σ f hint):=by
 intro N w₀ ρ H w args args' r H' hG h ha hl
 unfold funM at hl
 cases hf:P.funcs[f]? with
 | none=>rw[hf] at hl;exact (z1 hl).elim
 | some fn =>
  rw[hf] at hl
  simp only at hl
  cases hb:fn.body with
  | none=>rw[hb] at hl;exact (z1 hl).elim
  | some c =>
   rw[hb] at hl
   simp only at hl
   cases hle:Nat.ble args.length fn.ntmps with
   | false=>rw[hle] at hl;simp only[cond_false] at hl;exact (z1 hl).elim
   | true =>
    rw[hle] at hl
    simp only[cond_true] at hl
    have hlen:args.length≤fn.ntmps:=Nat.le_of_ble_eq_true hle
    have hal:=ha.length
    obtain⟨o,H1,h1,h2⟩:=z9i hl
    refine calls_of_wp hf hb ?_
    have he:EnvRel fn.ntmps ρ (envOf args) { tmps:=args'.toArray ++ Array.replicate (fn.ntmps - args'.toArray.size) undef,defers:=[] } :=
     ⟨by simp;omega,fun t=>zbwy ha _ t⟩
    have fin:∀ (vs:List V) (ρ':Ren) (w':World) (a':Act),Rel N w₀ ρ' H1 w'→Ext ρ H w ρ' H1 w'→a'.defers=[]→zbjf (zqm fn.results.toList) vs ρ' a' →
      (resM P (z5o (zqm fn.results.toList) vs) fn.results.toList fun l=>ret (zbe l)) H1=some (r,H') →
      a'.defers=[]∧∃ v,(results fn a'.tmps).run P w' = .ok v w'∧∃ r',Ending.returned v = .returned r'∧zz1 N w₀ ρ H w r H' r' w':=by
     intro vs ρ' w' a' q1 q2 q3 q4 q5
     obtain⟨l,l',g1,g2,g3⟩:=zbed (P:=P) q1 (z2z (n:=a'.tmps.size) rfl q4).slot fn.results.toList _ r H' q5
     simp only[ret] at g2;cases g2
     refine⟨q3,_,?_,_,rfl,ρ',zby2 g1,q1,q2⟩
     have hm:=z5p (P:=P) (zbgk a'.tmps) fn.results l' w' g3
     have heq:results fn a'.tmps=(do
      let vs ← fn.results.mapM (zbgk a'.tmps)
      pure (if h:vs.size=1 then vs[0] else .tuple vs)):=by
      unfold results
      congr 1
     rw[heq]
     simp only[Sem.run_bind,hm,Result.andThen_ok,Sem.run_pure]
    refine zbwx hσ hG (zqm fn.results.toList) c hint [] (zqm fn.results.toList) ρ H w (envOf args) _ o H1 _ h he h1 fun ρ' w' a' ex q1 q2 q3 q4 q5=>?_
    cases o with
    | nxt vs=>obtain⟨rfl,hs⟩:=q5;exact fin vs ρ' w' a' q1 q2 q4 hs h2
    | ret vs=>obtain⟨rfl,hs⟩:=q5;exact fin vs ρ' w' a' q1 q2 q4 hs h2
    | brk id vs=>simp only[zbg] at h2;exact (z1 h2).elim
def zbvm:List (Nat × (List V→M V))→zv
 | []=>fun _ _=>fail
 | (g,F) :: rest=>fun f=>bif Nat.beq f g then F else zbvm rest f
def zu (P:Program) (f:Nat) (F:List V→M V):Prop:=zw1 P f=true∧SimF P f F
theorem zbt8:zd9 P (zbvm []):=fun f args H r H' h=>by simp[zbvm,fail] at h
theorem z50 {f:Nat} {hint:Hint} {G:List V→M V} (hp:zw1 P f=true) (hσ:zd9 P σ) (h:∀ args H r H',G args H=some (r,H')→funM P σ f hint args H=some (r,H')):zu P f G :=
 ⟨hp,fun N w₀ ρ H w args args' r H' hG hR ha hl=>zbwz hσ N w₀ ρ H w args args' r H' hG hR ha (h args H r H' hl)⟩
abbrev ap0 (F:M V):List V→M V
 | []=>F
 | _=>fail
theorem kn0 {f:Nat} {hint:Hint} {F:M V} (hp:zw1 P f=true) (hσ:zd9 P σ) (h:funM P σ f hint []=F):zu P f (ap0 F):=z50 (hint:=hint) hp hσ fun l H r H' g=>by
 unfold ap0 at g;split at g
 ·rw[h];exact g
 ·exact (z1 g).elim
abbrev ap1 (F:V→M V):List V→M V
 | [x0]=>F x0
 | _=>fail
theorem kn1 {f:Nat} {hint:Hint} {F:V→M V} (hp:zw1 P f=true) (hσ:zd9 P σ) (h:∀ x0:V,funM P σ f hint [x0]=F x0):zu P f (ap1 F):=z50 (hint:=hint) hp hσ fun l H r H' g=>by
 unfold ap1 at g;split at g
 ·rw[h];exact g
 ·exact (z1 g).elim
abbrev ap2 (F:V→V→M V):List V→M V
 | [x0,x1]=>F x0 x1
 | _=>fail
theorem kn2 {f:Nat} {hint:Hint} {F:V→V→M V} (hp:zw1 P f=true) (hσ:zd9 P σ) (h:∀ x0 x1:V,funM P σ f hint [x0,x1]=F x0 x1):zu P f (ap2 F):=z50 (hint:=hint) hp hσ fun l H r H' g=>by
 unfold ap2 at g;split at g
 ·rw[h];exact g
 ·exact (z1 g).elim
abbrev ap3 (F:V→V→V→M V):List V→M V
 | [x0,x1,x2]=>F x0 x1 x2
 | _=>fail
theorem kn3 {f:Nat} {hint:Hint} {F:V→V→V→M V} (hp:zw1 P f=true) (hσ:zd9 P σ) (h:∀ x0 x1 x2:V,funM P σ f hint [x0,x1,x2]=F x0 x1 x2):zu P f (ap3 F):=z50 (hint:=hint) hp hσ fun l H r H' g=>by
 unfold ap3 at g;split at g
 ·rw[h];exact g
 ·exact (z1 g).elim
abbrev ap4 (F:V→V→V→V→M V):List V→M V
 | [x0,x1,x2,x3]=>F x0 x1 x2 x3
 | _=>fail
theorem kn4 {f:Nat} {hint:Hint} {F:V→V→V→V→M V} (hp:zw1 P f=true) (hσ:zd9 P σ) (h:∀ x0 x1 x2 x3:V,funM P σ f hint [x0,x1,x2,x3]=F x0 x1 x2 x3):zu P f (ap4 F):=z50 (hint:=hint) hp hσ fun l H r H' g=>by
 unfold ap4 at g;split at g
 ·rw[h];exact g
 ·exact (z1 g).elim
end Go.AM

/- What the printed functions are written with. -/
namespace Go.AM
def zc (vs:List V) (i:Nat):V:=vs.getD i undef
def strV (a:V):Option V:=match a with | .string s=>some (.string s) | _=>none
def zc0 (a:V):Option V:=match a with | .string s=>some (i64 s.size) | _=>none
def zt (a:V):Option V:=match a with | .slice _ n _=>some (i64 n) | _=>none
def zb4 {R:Type} (m:M V) (k:Heap→V→Heap→M R):M R:=fun H=>match m H with | some (v,H')=>k H v H' H' | none=>none
def zw3 {R:Type} (n:Nat) (k:Nat→Heap→M R):M R:=fun H=>k H.next (zto H n) (zto H n)
def zhc {R:Type} (k:Heap→M R):M R:=fun H=>k H H
abbrev noC:zv:=zbvm []
def ovr:List (Nat × (List V→M V))→zv→zv
 | [],S=>S
 | (g,F) :: rest,S=>fun f=>bif Nat.beq f g then F else ovr rest S f
theorem zj {P:Program} {S:zv} {g:Nat} {F:List V→M V} {l:List (Nat × (List V→M V))} (h:zu P g F) (hl:zd9 P (ovr l S)):zd9 P (ovr ((g,F) :: l) S):=by
 intro f args H r H' hr
 simp only[ovr] at hr ⊢
 cases hb:Nat.beq f g with
 | true =>
  have:=Nat.eq_of_beq_eq_true hb;subst this
  simp only[cond_true];exact h
 | false =>
  rw[hb] at hr
  simp only[cond_false] at hr ⊢
  exact hl f args H r H' hr
theorem zk {P:Program}:zd9 P (ovr [] noC):=zbt8
theorem zeg {P:Program} {S:zv} (h:zd9 P S):zd9 P (ovr [] S):=h
@[simp] theorem zb45 (g:Nat) (F:List V→M V) (l:List (Nat × (List V→M V))) (S:zv) (x y:Array V) (args:List V):zn4 (ovr ((g,F) :: l) S) (.func (.func g) x y) args=F (x.toList ++ (args ++ y.toList)):=by
 simp[zn4,ovr]
end Go.AM

/- How runs on the abstract machine are told. -/
namespace Go.AM
def wp {α:Type} (m:M α) (Q:α→Heap→Prop) (H:Heap):Prop:=∃ a H',m H=some (a,H')∧Q a H'
variable {α β:Type} {Q:α→Heap→Prop} {H:Heap}
theorem zbee {m:M α} {Q':α→Heap→Prop} (h:wp m Q H) (hq:∀ a H',Q a H'→Q' a H'):wp m Q' H:=by
 obtain⟨a,H',h1,h2⟩:=h;exact⟨a,H',h1,hq a H' h2⟩
@[simp] theorem wp_ret (a:α):wp (ret a) Q H↔Q a H:=⟨fun ⟨_,_,h1,h2⟩=>by cases h1;exact h2,fun h=>⟨a,H,rfl,h⟩⟩
@[simp] theorem z6 {m:M β} {k:β→M α}:wp (zb m k) Q H↔wp m (fun b H'=>wp (k b) Q H') H:=by
 constructor
 ·rintro⟨a,H',h1,h2⟩
  obtain⟨b,H1,h3,h4⟩:=bnd_inv' h1
  exact⟨b,H1,h3,a,H',h4,h2⟩
 ·rintro⟨b,H1,h3,a,H',h4,h2⟩
  exact⟨a,H',by simp[zb,h3,h4],h2⟩
where
 bnd_inv' {m:M β} {k:β→M α} {r:α} {H':Heap} (h:zb m k H=some (r,H')):∃ b H1,m H=some (b,H1)∧k b H1=some (r,H'):=by
  unfold zb at h
  split at h
  ·rename_i b H1 hm;exact⟨b,H1,hm,h⟩
  ·cases h
def wpO (o:Option α) (Q:α→Prop):Prop:=∃ a,o=some a∧Q a
@[simp] theorem zqn (a:α) (Q:α→Prop):wpO (some a) Q↔Q a:=by simp[wpO]
@[simp] theorem zb5i (Q:α→Prop):wpO none Q↔False:=by simp[wpO]
@[congr] theorem zb46 {o o':Option α} {Q:α→Prop} (h:o=o'):wpO o Q=wpO o' Q:=by rw[h]
@[congr] theorem zb5j {m m':M α} {Q:α→Heap→Prop} {H:Heap} (h:m=m'):wp m Q H=wp m' Q H:=by rw[h]
@[congr] theorem zb47 {m m':M β} {k:β→M α} (h:m=m'):zb m k=zb m' k:=by rw[h]
@[congr] theorem zb34 {R:Type} {m m':M V} {k:Heap→V→Heap→M R} (h:m=m'):zb4 m k=zb4 m' k:=by rw[h]
@[congr] theorem zb35 {b b':Bool} {m:M α} (h:b=b'):zfi b m=zfi b' m:=by rw[h]
@[congr] theorem zb3g {c c':V} {m1 m2:M Out} (h:c=c'):zn c m1 m2=zn c' m1 m2:=by rw[h]
@[congr] theorem zb5k {g g':V} {b:Bool} {m:M V} (h:g=g'):gd g b m=gd g' b m:=by rw[h]
@[congr] theorem zb5l {o o':Out} {k:List V→M Out} (h:o=o'):nx o k=nx o' k:=by rw[h]
@[congr] theorem zb36 {o o':Out} {k:List V→M V} (h:o=o'):zbg o k=zbg o' k:=by rw[h]
@[congr] theorem zb3h {n:Nat} {body:List V→M Out} {vs vs':List V} (h:vs=vs'):zbf n body vs=zbf n body vs':=by rw[h]
@[simp] theorem zvk (o:Option α):wp (za o) Q H↔wpO o fun a=>Q a H:=by
 unfold wpO
 cases o with
 | none=>simp[wp,za]
 | some a=>exact⟨fun ⟨_,_,h1,h2⟩=>by cases h1;exact⟨_,rfl,h2⟩,fun ⟨_,h1,h2⟩=>by cases h1;exact⟨_,_,rfl,h2⟩⟩
@[simp] theorem zb6b:wp (fail:M α) Q H↔False:=by simp[wp,fail]
@[simp] theorem zb1c (m:M α):wp (zfi true m) Q H↔wp m Q H:=by simp[wp,zfi]
@[simp] theorem zb37 (m1 m2:M Out):zn (.bool true) m1 m2=m1:=rfl
@[simp] theorem zb3i (m1 m2:M Out):zn (.bool false) m1 m2=m2:=rfl
@[simp] theorem zb1d {R:Type} {m:M V} {k:Heap→V→Heap→M R} {Q:R→Heap→Prop}:wp (zb4 m k) Q H↔wp m (fun v H'=>wp (k H v H') Q H') H:=by
 constructor
 ·rintro⟨a,H',h1,h2⟩
  unfold zb4 at h1
  split at h1
  ·rename_i b H1 hm;exact⟨b,H1,hm,a,H',h1,h2⟩
  ·cases h1
 ·rintro⟨b,H1,h3,a,H',h4,h2⟩
  exact⟨a,H',by simp[zb4,h3,h4],h2⟩
@[simp] theorem zby3 {R:Type} {k:Heap→M R} {Q:R→Heap→Prop}:wp (zhc k) Q H↔wp (k H) Q H:=by simp[zhc,wp]
@[simp] theorem ztq {R:Type} {n:Nat} {k:Nat→Heap→M R} {Q:R→Heap→Prop}:wp (zw3 n k) Q H↔wp (k H.next (zto H n)) Q (zto H n):=by simp[zw3,wp]
@[simp] theorem zb6c (b:Bool) (m:M V):gd (.bool b) true m=if b then m else ret zon:=by cases b <;> simp[gd]
@[simp] theorem zb5m (b:Bool) (m:M V):gd (.bool b) false m=if b then ret zon else m:=by cases b <;> simp[gd]
@[simp] theorem zb1e (b:Bool) (m:M V):gd zon b m=ret zon:=rfl
@[simp] theorem zb38 (vs:List V) (k:List V→M Out):nx (.nxt vs) k=k vs:=rfl
@[simp] theorem zb39 (i:Nat) (vs:List V) (k:List V→M Out):nx (.brk i vs) k=ret (.brk i vs):=rfl
@[simp] theorem zb4a (vs:List V) (k:List V→M Out):nx (.ret vs) k=ret (.ret vs):=rfl
@[simp] theorem zbw0 (i:Nat) (vs:List V):zw i (.nxt vs) = .nxt vs:=rfl
@[simp] theorem zbw1 (i:Nat) (vs:List V):zw i (.ret vs) = .ret vs:=rfl
@[simp] theorem zbw2 (i j:Nat) (vs:List V):zw i (.brk j vs)=if j=i then .nxt vs else .brk j vs:=by
 simp only[zw]
 by_cases h:j=i
 ·subst h;simp
 ·rw[zbm4 h];simp[h]
@[simp] theorem zby4 (vs:List V) (k:List V→M V):zbg (.nxt vs) k=k vs:=rfl
@[simp] theorem zby5 (vs:List V) (k:List V→M V):zbg (.ret vs) k=k vs:=rfl
@[simp] theorem zbvo (v:V) (vs:List V):zc (v :: vs) 0=v:=rfl
@[simp] theorem zbvp (v:V) (vs:List V) (i:Nat):zc (v :: vs) (i + 1)=zc vs i:=by simp[zc]
@[simp] theorem zby6 (v:V):zbe [v]=v:=rfl
theorem zfd {body:List V→M Out} {vs:List V} {Q:Out→Heap→Prop} (Inv:Nat→List V→Heap→Prop) {n:Nat} (hn:n < zbs) (h0:Inv n vs H)
  (hstep:∀ k vs H,Inv k vs H→wp (body vs) (fun o H'=>match o with | .nxt vs'=>∃ k',k' < k∧Inv k' vs' H' | o=>Q o H') H):wp (zbf zbs body vs) Q H:=by
 have key:∀ m k vs H,k < m→Inv k vs H→wp (zbf m body vs) Q H:=by
  intro m
  induction m with
  | zero=>intro k vs H h;omega
  | succ m ih =>
   intro k vs H hk hi
   simp only[zbf,z6]
   refine zbee (hstep k vs H hi) fun o H' ho=>?_
   cases o with
   | nxt vs'=>obtain⟨k',h1,h2⟩:=ho;exact ih k' vs' H' (by omega) h2
   | brk i vs'=>simpa using ho
   | ret vs'=>simpa using ho
 exact key zbs n vs H hn h0
abbrev U (x:BitVec 32):V := .int .u32 x.toNat
abbrev W (x:BitVec 64):V := .int .u64 x.toNat
abbrev B (x:BitVec 8):V := .int .u8 x.toNat
abbrev str (s:ByteArray):V := .string s
theorem zbm9 (n:Int):IntKind.u32.wrap n=((BitVec.ofInt 32 n).toNat:Int):=by rw[IntKind.wrap_u32];simp[BitVec.toNat_ofInt];omega
theorem zb3j (n:Int):IntKind.u64.wrap n=((BitVec.ofInt 64 n).toNat:Int):=by rw[IntKind.wrap_u64];simp[BitVec.toNat_ofInt];omega
theorem zb3k (n:Int):IntKind.u8.wrap n=((BitVec.ofInt 8 n).toNat:Int):=by rw[IntKind.wrap_u8];simp[BitVec.toNat_ofInt];omega
theorem zjm (n:Nat) (m:Nat):BitVec.ofInt n (m:Int)=BitVec.ofNat n m:=BitVec.ofInt_natCast n m
@[simp] theorem zb6d (x y:BitVec 32):zr .add (U x) (U y)=some (U (x + y)):=by
 simp[zr,z9v,zbm9,← Int.natCast_add,zjm]
@[simp] theorem zb6e (x y:BitVec 32):zr .and (U x) (U y)=some (U (x &&& y)):=by
 simp[zr,z9v,zbhd,zbm9,zjm,IntKind.bits];rfl
@[simp] theorem zb6u (x y:BitVec 32):zr .or (U x) (U y)=some (U (x ||| y)):=by
 simp[zr,z9v,zbhd,zbm9,zjm,IntKind.bits];rfl
@[simp] theorem zb6f (x y:BitVec 32):zr .xor (U x) (U y)=some (U (x ^^^ y)):=by
 simp[zr,z9v,zbhd,zbm9,zjm,IntKind.bits];rfl
@[simp] theorem zb6g (x:BitVec 32):un .xor (U x)=some (U (~~~ x)):=by
 have h1:BitVec.ofInt 32 4294967295 ^^^ x = ~~~x:=by rw[show (BitVec.ofInt 32 4294967295)=BitVec.allOnes 32 from rfl,BitVec.allOnes_xor]
 have h2:un .xor (U x)=some (.int .u32 (IntKind.u32.wrap ((BitVec.ofInt 32 4294967295 ^^^ BitVec.ofInt 32 x.toNat).toNat:Int))):=rfl
 rw[h2,zjm,BitVec.ofNat_toNat,BitVec.setWidth_eq,h1,zbm9,zjm,BitVec.ofNat_toNat,BitVec.setWidth_eq]
@[simp] theorem zb6v (x:BitVec 32):cvi .u8 (U x)=some (B (x.setWidth 8)):=by
 simp[cvi,zb3k,zjm]
@[simp] theorem zb6w (x:BitVec 8):cvi .u32 (B x)=some (U (x.setWidth 32)):=by
 simp[cvi,zbm9,zjm]
@[simp] theorem zb6h (x y:BitVec 64):zr .mul (W x) (W y)=some (W (x * y)):=by
 simp[zr,z9v,zb3j,← Int.natCast_mul,zjm]
@[simp] theorem zb6x (x:BitVec 64):cvi .u8 (W x)=some (B (x.setWidth 8)):=by
 simp[cvi,zb3k,zjm]
@[simp] theorem zb6i (x:Nat):cvi .u64 (i64 x)=some (W (BitVec.ofNat 64 x)):=by
 simp[cvi,zb3j,zjm]
@[simp] theorem zb6y (x:BitVec 8):cvi .i64 (B x)=some (i64 x.toNat):=by
 have:=x.isLt
 simp only[cvi];rw[IntWalk.i64_in _ ⟨by omega,by omega⟩]
theorem i64_in {n:Int} (h0:-9223372036854775808≤n) (h1:n≤9223372036854775807):IntKind.i64.wrap n=n:=IntWalk.i64_in n ⟨h0,h1⟩
@[simp] theorem zb1f (x y:Int):zr .add (i64 x) (i64 y)=some (i64 (IntKind.i64.wrap (x + y))):=rfl
@[simp] theorem zb1g (x y:Int):zr .sub (i64 x) (i64 y)=some (i64 (IntKind.i64.wrap (x - y))):=rfl
@[simp] theorem zb1h (x y:Int):zr .mul (i64 x) (i64 y)=some (i64 (IntKind.i64.wrap (x * y))):=rfl
@[simp] theorem zb6j (k:IntKind) (x y:Int):zr .eql (.int k x) (.int k y)=some (.bool (x == y)):=by simp[zr,z9v]
@[simp] theorem zb6k (k:IntKind) (x y:Int):zr .neq (.int k x) (.int k y)=some (.bool (x != y)):=by simp[zr,z9v]
@[simp] theorem zb1i (k:IntKind) (x y:Int):zr .lss (.int k x) (.int k y)=some (.bool (decide (x < y))):=by simp[zr,z9v]
@[simp] theorem zb1j (k:IntKind) (x y:Int):zr .leq (.int k x) (.int k y)=some (.bool (decide (x≤y))):=by simp[zr,z9v]
@[simp] theorem zb1k (k:IntKind) (x y:Int):zr .gtr (.int k x) (.int k y)=some (.bool (decide (x > y))):=by simp[zr,z9v]
@[simp] theorem zb1l (k:IntKind) (x y:Int):zr .geq (.int k x) (.int k y)=some (.bool (decide (x≥y))):=by simp[zr,z9v]
@[simp] theorem zb6l (x y:ByteArray):zr .eql (.string x) (.string y)=some (.bool (decide (x=y))):=rfl
@[simp] theorem zb6m (x y:ByteArray):zr .neq (.string x) (.string y)=some (.bool (!decide (x=y))):=rfl
@[simp] theorem zb48 (b:Bool) (x y:V):zy (.bool b) x y=some (if b then x else y):=by cases b <;> rfl
@[simp] theorem zb5n (b:Bool):un .not (.bool b)=some (.bool (!b)):=rfl
namespace Heap
@[simp] theorem get_push_self (H:Heap) (x:Option Blk):(H.push x).get H.next=x:=by
 rw[Heap.get_push];simp
theorem get_push_lt {H:Heap} {x:Option Blk} {b:Nat} (h:b < H.next):(H.push x).get b=H.get b:=by
 rw[Heap.get_push,if_neg (by omega)]
@[simp] theorem next_push' (H:Heap) (x:Option Blk):(H.push x).next=H.next + 1:=Heap.next_push H x
@[simp] theorem next_set' (H:Heap) (b:Nat) (x:Option Blk):(H.set b x).next=H.next:=Heap.next_set H b x
theorem get_set_self {H:Heap} {b:Nat} {x:Option Blk} (h:b < H.next):(H.set b x).get b=x:=by
 rw[Heap.get_set H b x _ h];simp
theorem z1j (H:Heap) (b:Nat) (x:Option Blk) (c:Nat):(H.set b x).get c=if c=b∧b < H.next then x else H.get c:=BT.get_set b x c H.ok
@[simp] theorem set_set (H:Heap) (b:Nat) (x y:Option Blk):(H.set b x).set b y=H.set b y:=by
 refine Heap.same rfl fun c _=>?_
 rw[z1j,z1j,z1j,show (H.set b x).next=H.next from rfl]
 by_cases h:c=b∧b < H.next
 ·rw[if_pos h,if_pos h]
 ·rw[if_neg h,if_neg h,if_neg h]
end Heap
def ztr (H:Heap) (p:V):Option V:=match p with | .pointer (some ⟨b,o,none⟩)=>H.cell b o | _=>none
@[simp] theorem zb4b (p:V) {Q:V→Heap→Prop}:wp (zz p) Q H↔wpO (ztr H p) fun v=>Q v H:=by
 unfold wp wpO zz ztr
 constructor
 ·rintro⟨a,H',h1,h2⟩
  split at h1
  ·split at h1
   ·rename_i v hc;cases h1;exact⟨_,hc,h2⟩
   ·cases h1
  ·cases h1
 ·rintro⟨a,h1,h2⟩
  split at h1
  ·exact⟨a,H,by simp[h1],h2⟩
  ·cases h1
theorem zbgl {b o:Nat} {rw:Bool} {cs:List V} (h:H.get b=some (.cells rw cs)):ztr H (ptr b o)=cs[o]? := by simp[ztr,Heap.cell,h]
theorem zbcq {b o u len cap size:Nat} {k:IntKind} {i:Int} (h0:0≤i) (h1:i < len):zq size (slc b o u len cap) (.int k i)=some (ptr b (o + i.toNat * size)):=by simp[zq,h0,h1]
theorem zbjh {b o n size:Nat} {k:IntKind} {i:Int} (h0:0≤i) (h1:i < n):zzw n size (ptr b o) (.int k i)=some (ptr b (o + i.toNat * size)):=by simp[zzw,h0,h1]
@[simp] theorem zbw3 (b o off:Nat):ze off (ptr b o)=some (ptr b (o + off)):=rfl
@[simp] theorem zbw4 (b o:Nat):zbo (ptr b o)=some (ptr b o):=rfl
@[simp] theorem zwf (k:IntKind) (n:Int):(Value.int k n).isOne=true:=rfl
@[simp] theorem zwg (s:ByteArray):(Value.string s).isOne=true:=rfl
@[simp] theorem zsg (b:Bool):(Value.bool b).isOne=true:=rfl
@[simp] theorem zpy (a:Option Addr) (n c:Nat):(Value.slice a n c).isOne=true:=rfl
@[simp] theorem zk4 (a:Option Addr):(Value.pointer a).isOne=true:=rfl
@[simp] theorem zwh (a:Option Nat):(Value.map a).isOne=true:=rfl
theorem zby7 {b o:Nat} {cs:List V} {v:V} (h:H.get b=some (.cells true cs)) (hv:v.isOne=true) (ho:o < cs.length) {Q:V→Heap→Prop} :
  wp (st1 (ptr b o) v) Q H↔Q undef (H.set b (some (.cells true (cs.set o v)))):=by
 constructor
 ·rintro⟨a,H',h1,h2⟩
  simp[st1,h,hv,ho] at h1
  obtain⟨rfl,rfl⟩:=h1;exact h2
 ·intro hq;exact⟨_,_,by simp[st1,h,hv,ho],hq⟩
theorem zb4c {b o n:Nat} {cs vs:List V} (h:H.get b=some (.cells true cs)) (hv:vs.all Value.isOne=true) (hn:vs.length=n) (ho:o + n≤cs.length) {Q:V→Heap→Prop} :
  wp (stn n (ptr b o) (.agg vs.toArray)) Q H↔Q undef (H.set b (some (.cells true (splice cs o vs)))):=by
 have hc:(vs.all Value.isOne && vs.length == n && decide (o + n≤cs.length))=true:=by simp[hv,hn,ho]
 constructor
 ·rintro⟨a,H',h1,h2⟩
  simp only[stn,h,hc,if_true] at h1
  cases h1;exact h2
 ·intro hq;exact⟨_,_,by simp only[stn,h,hc,if_true],hq⟩
theorem zbt9 {b o n:Nat} {rw:Bool} {cs:List V} (h:H.get b=some (.cells rw cs)) (ho:o + n≤cs.length) {Q:V→Heap→Prop} :
  wp (ldn n (ptr b o)) Q H↔Q (.agg ((cs.drop o).take n).toArray) H:=by
 constructor
 ·rintro⟨a,H',h1,h2⟩
  simp[ldn,cellsAt,h,ho] at h1
  obtain⟨rfl,rfl⟩:=h1;exact h2
 ·intro hq;exact⟨_,_,by simp[ldn,cellsAt,h,ho],hq⟩
theorem zo5 {cs:List V} (h:cs.all zgb=true) {Q:V→Heap→Prop}:wp (newc cs) Q H↔Q (ptr H.next 0) (H.push (some (.cells true cs))):=by
 constructor
 ·rintro⟨a,H',h1,h2⟩
  simp only[newc,h,if_true] at h1
  cases h1;exact h2
 ·intro hq;exact⟨_,_,by simp only[newc,h,if_true],hq⟩
@[simp] theorem zbq9 {Q:V→Heap→Prop}:wp zwr Q H↔Q (.map (some H.next)) (H.push (some (.map true []))) :=
 ⟨fun ⟨_,_,h1,h2⟩=>by cases h1;exact h2,fun h=>⟨_,_,rfl,h⟩⟩
@[simp] theorem zbog (a:Option Addr) (n c:Nat):zt (.slice a n c)=some (i64 n):=rfl
@[simp] theorem zbua (s:ByteArray):zc0 (.string s)=some (i64 s.size):=rfl
@[simp] theorem zby8 (s:ByteArray):strV (.string s)=some (.string s):=rfl
theorem zi8 {size len:Nat} {zero cs:List V} {parts:List (Nat × Nat × V)} (h:zero.all zgb=true) (hc:zbn zero parts=some cs) {Q:V→Heap→Prop} :
  wp (zcz size len zero parts) Q H↔Q (slc H.next 0 size len len) (H.push (some (.cells true cs))):=by
 constructor
 ·rintro⟨a,H',h1,h2⟩
  simp only[zcz,h,if_true,hc] at h1
  cases h1;exact h2
 ·intro hq;exact⟨_,_,by simp only[zcz,h,if_true,hc],hq⟩
def zgm (o:Option V) (v:V):Bool:=match o with | some v'=>vEq v' v | none=>false
@[congr] theorem zb4d {o o':Option V} {v:V} (h:o=o'):zgm o v=zgm o' v:=by rw[h]
theorem zb4e (p:V) (H:Heap):zz p H=match ztr H p with | some v=>some (v,H) | none=>none:=by
 cases p <;> try rfl
 rename_i a
 cases a with
 | none=>rfl
 | some a=>obtain⟨b,o,s⟩:=a;cases s <;> rfl
theorem zb1m (p:V) (H:Heap) (v:V):chk (zz p) H v=zgm (ztr H p) v:=by
 unfold chk zgm
 rw[zb4e]
 cases ztr H p <;> rfl
@[simp] theorem z1k (k:IntKind) (n:Int):zgm (some (.int k n)) (.int k n)=true:=by simp[zgm,vEq]
@[simp] theorem zwi (b:Bool):zgm (some (.bool b)) (.bool b)=true:=by simp[zgm,vEq]
@[simp] theorem z1l (s:ByteArray):zgm (some (.string s)) (.string s)=true:=by simp[zgm,vEq]
@[simp] theorem z1m (a:Option Addr):zgm (some (.pointer a)) (.pointer a)=true:=by simp[zgm,vEq]
@[simp] theorem z1n (a:Option Addr) (n c:Nat):zgm (some (.slice a n c)) (.slice a n c)=true:=by simp[zgm,vEq]
@[simp] theorem z1o (a:Option Nat):zgm (some (.map a)) (.map a)=true:=by simp[zgm,vEq]
@[simp] theorem zb6n (v:V) (H:Heap):chk (ret v) H v=vEq v v:=rfl
end Go.AM

/- Slices that one owns: elements of one cell. -/
namespace Go.AM
structure Keeps (S:List Nat) (H H':Heap):Prop where
 next:H.next≤H'.next
 same:∀ b,b < H.next→b ∉ S→H'.get b=H.get b
theorem Keeps.refl (S:List Nat) (H:Heap):Keeps S H H:=⟨Nat.le_refl _,fun _ _ _=>rfl⟩
theorem Keeps.trans {S S':List Nat} {H H1 H2:Heap} (h:Keeps S H H1) (h':Keeps S' H1 H2) (hs:∀ b,b < H.next→b∈S'→b∈S):Keeps S H H2 :=
 ⟨Nat.le_trans h.next h'.next,fun b hb hn=>by rw[h'.same b (Nat.lt_of_lt_of_le hb h.next) (fun hi=>hn (hs b hb hi)),h.same b hb hn]⟩
theorem Keeps.mono {S S':List Nat} {H H1:Heap} (h:Keeps S H H1) (hs:∀ b,b∈S→b∈S'):Keeps S' H H1:=⟨h.next,fun b hb hn=>h.same b hb fun hi=>hn (hs b hi)⟩
theorem Keeps.get {S:List Nat} {H H':Heap} (h:Keeps S H H') {b:Nat} {x:Blk} (hb:H.get b=some x) (hn:b ∉ S):H'.get b=some x:=by
 rw[h.same b (Heap.get_lt hb) hn];exact hb
theorem Keeps.push (S:List Nat) (H:Heap) (x:Option Blk):Keeps S H (H.push x):=⟨by simp,fun b hb _=>Heap.get_push_lt hb⟩
theorem Keeps.set {S:List Nat} {H:Heap} {b:Nat} {x:Option Blk} (h:b∈S):Keeps S H (H.set b x):=⟨by simp,fun c _ hn=>Heap.get_set_ne _ _ _ fun e=>hn (e ▸ h)⟩
def vb (v:V):List Nat:=match v with | .slice (some ⟨b,_,_⟩) _ _=>[b] | _=>[]
@[simp] theorem zb6z (n c:Nat):vb (.slice none n c)=[]:=rfl
@[simp] theorem zb60 (b o u n c:Nat):vb (slc b o u n c)=[b]:=rfl
def Own (H:Heap) (v:V) (l:List V):Prop:=(v = .slice none 0 0∧l=[])∨∃ b,v=slc b 0 1 l.length l.length∧H.get b=some (.cells true l)
theorem Own.nil (H:Heap):Own H (.slice none 0 0) [] := .inl ⟨rfl,rfl⟩
theorem Own.keep {S:List Nat} {H H':Heap} {v:V} {l:List V} (h:Own H v l) (hk:Keeps S H H') (hn:∀ b∈vb v,b ∉ S):Own H' v l:=by
 rcases h with h | ⟨b,rfl,hb⟩
 ·exact .inl h
 ·exact .inr ⟨b,rfl,hk.get hb (hn b (by simp))⟩
theorem Own.len {H:Heap} {v:V} {l:List V} (h:Own H v l):zt v=some (i64 l.length):=by
 rcases h with⟨rfl,rfl⟩ | ⟨b,rfl,hb⟩ <;> rfl
theorem Own.lt {H:Heap} {v:V} {l:List V} (h:Own H v l):∀ b∈vb v,b < H.next:=by
 rcases h with⟨rfl,rfl⟩ | ⟨b,rfl,hb⟩
 ·simp
 ·simpa using Heap.get_lt hb
theorem Own.idx {H:Heap} {v:V} {l:List V} (h:Own H v l) {k:IntKind} {i:Nat} (hi:i < l.length):∃ b,zq 1 v (.int k i)=some (ptr b i)∧ztr H (ptr b i)=some l[i]:=by
 rcases h with⟨rfl,rfl⟩ | ⟨b,rfl,hb⟩
 ·simp at hi
 ·refine⟨b,?_,?_⟩
  ·rw[zbcq (by omega) (by omega)];simp
  ·rw[zbgl hb];simp[hi]
theorem zb4f {v:V} {l:List V} {bs:List UInt8} {H:Heap} {Q:V→Heap→Prop} (hv:Own H v l) (hl:zqi l=some bs) (hQ:Q (.string ⟨bs.toArray⟩) H):wp (b2s v) Q H:=by
 rcases hv with⟨rfl,rfl⟩ | ⟨b,rfl,hg⟩
 ·simp[zqi] at hl;subst hl
  exact⟨_,_,rfl,hQ⟩
 ·refine⟨_,_,?_,hQ⟩
  simp[b2s,cellsAt,hg,hl]
end Go.AM

/- Rules for walks: conditions that are told at once. -/
namespace Go.AM
section
variable {p:Prop} [Decidable p]
theorem zby9 {a b:M Out} (h:p):zn (.bool (decide p)) a b=a:=by simp[h]
theorem zbza {a b:M Out} (h:¬ p):zn (.bool (decide p)) a b=b:=by simp[h]
theorem zb5o {m:M V} (h:p):gd (.bool (decide p)) true m=m:=by simp[h]
theorem zb5p {m:M V} (h:¬ p):gd (.bool (decide p)) true m=ret zon:=by simp[h]
theorem zb4g {m:M V} (h:p):gd (.bool (decide p)) false m=ret zon:=by simp[h]
theorem zb4h {m:M V} (h:¬ p):gd (.bool (decide p)) false m=m:=by simp[h]
theorem zb1n {x y:V} (h:p):zy (.bool (decide p)) x y=some x:=by simp[h]
theorem zb1o {x y:V} (h:¬ p):zy (.bool (decide p)) x y=some y:=by simp[h]
theorem zb1p:un .not (.bool (decide p))=some (.bool (decide (¬ p))):=by simp[un]
end
theorem zb1q (a b:M Out):zn (.bool true) a b=a:=rfl
theorem zb1r (a b:M Out):zn (.bool false) a b=b:=rfl
theorem gd_t (m:M V):gd (.bool true) true m=m:=rfl
theorem gd_f (m:M V):gd (.bool false) true m=ret zon:=rfl
theorem zb5q (m:M V):gd (.bool true) false m=ret zon:=rfl
theorem zb5r (m:M V):gd (.bool false) false m=m:=rfl
theorem zb4i (x y:V):zy (.bool true) x y=some x:=rfl
theorem zb4j (x y:V):zy (.bool false) x y=some y:=rfl
theorem zb5s:un .not (.bool true)=some (.bool false):=rfl
theorem zb5t:un .not (.bool false)=some (.bool true):=rfl
theorem zb1s (k:IntKind) (x y:Int):zr .eql (.int k x) (.int k y)=some (.bool (decide (x=y))):=by
 simp[zr,z9v,BEq.beq]
theorem zb1t (k:IntKind) (x y:Int):zr .neq (.int k x) (.int k y)=some (.bool (decide (x≠y))):=by
 simp[zr,z9v,bne,BEq.beq]
theorem zb1u (x y:ByteArray):zr .eql (.string x) (.string y)=some (.bool (decide (x=y))):=rfl
theorem zb1v (x y:ByteArray):zr .neq (.string x) (.string y)=some (.bool (decide (x≠y))):=by simp[zr,sbin]
@[simp] theorem zbw5 (b o:Nat):zcp false (zef .p (ptr b o))=some (.bool false):=rfl
@[simp] theorem zbub (b o:Nat):zcp true (zef .p (ptr b o))=some (.bool true):=rfl
@[simp] theorem zbuc:zcp false (zef .p (.pointer none))=some (.bool true):=rfl
@[simp] theorem zbra:zcp true (zef .p (.pointer none))=some (.bool false):=rfl
end Go.AM

/- Strings and their bytes. -/
namespace Go.AM
def bv (s:ByteArray):List (BitVec 8):=s.data.toList.map UInt8.toBitVec
def sv (l:List (BitVec 8)):ByteArray:=⟨(l.map UInt8.ofBitVec).toArray⟩
theorem zct (s:ByteArray):(bv s).length=s.size:=by simp only[bv,List.length_map,Array.length_toList];rfl
theorem z4c (l:List (BitVec 8)):bv (sv l)=l:=by
 simp only[bv,sv,List.map_map]
 conv=>rhs;rw[← List.map_id l]
 apply List.map_congr_left
 intro x _;rfl
theorem zbna (s:ByteArray):sv (bv s)=s:=by
 cases s with | mk d =>
 simp only[bv,sv,List.map_map]
 congr 1
 apply Array.toList_inj.mp
 simp only[List.toList_toArray]
 conv=>rhs;rw[← List.map_id d.toList]
 apply List.map_congr_left
 intro x _;rfl
theorem zbji {s t:ByteArray} (h:bv s=bv t):s=t:=by rw[← zbna s,h,zbna]
theorem zb4k {l m:List (BitVec 8)} (h:sv l=sv m):l=m:=by rw[← z4c l,h,z4c]
theorem z9j (l:List (BitVec 8)):(sv l).size=l.length:=by rw[← zct,z4c]
theorem zbw6 (s t:ByteArray):bv (s ++ t)=bv s ++ bv t:=by
 have h:(s ++ t).data=s.data ++ t.data:=ByteArray.data_append
 simp only[bv,h,Array.toList_append,List.map_append]
theorem bv_extract (s:ByteArray) (a b:Nat):bv (s.extract a b)=((bv s).drop a).take (b - a):=by
 have h:(s.extract a b).data=s.data.extract a b:=ByteArray.data_extract
 simp only[bv,h,Array.toList_extract,List.extract,List.map_take,List.map_drop]
theorem zbzb:bv ⟨#[]⟩=[]:=rfl
theorem zb4l {s:ByteArray}:bv s=[]↔s=⟨#[]⟩:=⟨fun h=>zbji (h.trans zbzb.symm),fun h=>by rw[h];rfl⟩
theorem size_append (s t:ByteArray):(s ++ t).size=s.size + t.size:=by rw[← zct,zbw6,List.length_append,zct,zct]
theorem zbnb:∀ l:List (BitVec 8),zqi (l.map B)=some (l.map UInt8.ofBitVec)
 | []=>rfl
 | x :: l=>by
  simp only[List.map_cons,zqi,zbnb l,zbig]
  congr 2
  apply UInt8.toBitVec_inj.mp
  apply BitVec.eq_of_toNat_eq
  show (UInt8.ofNat (x.toNat:Int).toNat).toBitVec.toNat=x.toNat
  have:=x.isLt
  simp
theorem zb1w {v:V} {l:List (BitVec 8)} {H:Heap} {Q:V→Heap→Prop} (hv:Own H v (l.map B)) (hQ:Q (.string (sv l)) H):wp (b2s v) Q H:=zb4f hv (zbnb l) hQ
theorem zi9 {s:ByteArray} {k:IntKind} {i:Int} (h0:0≤i) (h:i < s.size):zj3 (.string s) (.int k i)=some (B ((bv s).getD i.toNat 0)):=by
 have hi:i.toNat < s.size:=by omega
 have hb:i.toNat < (bv s).length:=by rw[zct];exact hi
 have e:s[i.toNat]? = some s[i.toNat]:=getElem?_pos s i.toNat hi
 have e2:(bv s).getD i.toNat 0=s[i.toNat].toBitVec:=by
  rw[List.getD_eq_getElem?_getD,List.getElem?_eq_getElem hb]
  simp only[bv,List.getElem_map,Option.getD_some]
  rfl
 simp only[zj3,h0,if_true,e,e2]
 rfl
theorem zb1x {s:ByteArray} {k:IntKind} {a:Int} (h1:0≤a) (h3:a≤s.size):zzx (.string s) (some (.int k a)) none=some (.string (s.extract a.toNat s.size)):=by
 have e2:zc8 0 s.size (some (.int k a))=some a.toNat:=by simp[zc8];omega
 simp[zzx,e2]
 simp[zc8]
 simp[zc8] at e2
 simp[e2]
theorem zb1y {s:ByteArray} {k':IntKind} {b:Int} (h2:0≤b) (h3:b≤s.size):zzx (.string s) none (some (.int k' b))=some (.string (s.extract 0 b.toNat)):=by
 have e1:zc8 s.size s.size (some (.int k' b))=some b.toNat:=by simp[zc8];omega
 have e2:zc8 0 b.toNat none=some 0:=rfl
 simp only[zzx,e1,e2]
theorem zb1z (k k':IntKind) (n:Int):cvi k (.int k' n)=some (.int k (k.wrap n)):=rfl
end Go.AM

/- Slices of things that lie flat in cells. -/
namespace Go.AM
class Flat (α:Type) where
 size:Nat
 enc:α→List V
 len:∀ a,(enc a).length=size
 one:∀ a,(enc a).all Value.isOne=true
 pos:0 < size
instance:Flat Int:=⟨1,fun n=>[i64 n],fun _=>rfl,fun _=>rfl,by decide⟩
instance:Flat ByteArray:=⟨1,fun s=>[.string s],fun _=>rfl,fun _=>rfl,by decide⟩
instance:Flat (BitVec 8):=⟨1,fun b=>[B b],fun _=>rfl,fun _=>rfl,by decide⟩
instance:Flat Bool:=⟨1,fun b=>[.bool b],fun _=>rfl,fun _=>rfl,by decide⟩
theorem zb10 (n:Int):Flat.enc n=[i64 n]:=rfl
theorem zb11 (s:ByteArray):Flat.enc s=[.string s]:=rfl
theorem zbzc (b:BitVec 8):Flat.enc b=[B b]:=rfl
theorem zbzd (b:Bool):Flat.enc b=[.bool b]:=rfl
variable {α:Type} [Flat α]
def zbm (xs:List α):List V:=xs.flatMap Flat.enc
theorem zeh (x:α) (xs:List α):zbm (x :: xs)=Flat.enc x ++ zbm xs:=rfl
theorem zbrb (xs ys:List α):zbm (xs ++ ys)=zbm xs ++ zbm ys:=by simp[zbm]
theorem zb6 (xs:List α):(zbm xs).length=xs.length * Flat.size α:=by
 induction xs with
 | nil=>simp[zbm]
 | cons x xs ih=>rw[zeh,List.length_append,ih,Flat.len,List.length_cons,Nat.add_mul];omega
theorem zbef (xs:List α):(zbm xs).all Value.isOne=true:=by
 induction xs with
 | nil=>rfl
 | cons x xs ih=>rw[zeh,List.all_append,ih,Flat.one];rfl
theorem zbgm (xs:List α):∀ i,(zbm xs).drop (i * Flat.size α)=zbm (xs.drop i):=by
 induction xs with
 | nil=>intro i;simp[zbm]
 | cons x xs ih =>
  intro i
  cases i with
  | zero=>simp
  | succ i =>
   rw[zeh,Nat.add_mul,Nat.one_mul,Nat.add_comm,← List.drop_drop]
   rw[List.drop_append_of_le_length (by rw[Flat.len];exact Nat.le_refl _)]
   rw[show (Flat.enc x).drop (Flat.size α)=[] from List.drop_eq_nil_of_le (by rw[Flat.len];exact Nat.le_refl _)]
   exact ih i
theorem zbgn (xs:List α):∀ i,(zbm xs).take (i * Flat.size α)=zbm (xs.take i):=by
 induction xs with
 | nil=>intro i;simp[zbm]
 | cons x xs ih =>
  intro i
  cases i with
  | zero=>simp[zbm]
  | succ i =>
   rw[zeh,Nat.add_mul,Nat.one_mul,Nat.add_comm,List.take_add,List.take_append_of_le_length (by rw[Flat.len];exact Nat.le_refl _)]
   rw[show (Flat.enc x).take (Flat.size α)=Flat.enc x from List.take_of_length_le (by rw[Flat.len];exact Nat.le_refl _)]
   rw[List.drop_append_of_le_length (by rw[Flat.len];exact Nat.le_refl _),show (Flat.enc x).drop (Flat.size α)=[] from List.drop_eq_nil_of_le (by rw[Flat.len];exact Nat.le_refl _)]
   rw[List.nil_append,ih i,List.take_succ_cons,zeh]
theorem zbze (xs:List α):∀ (i off:Nat) (v:V) (x':α) (d:α),i < xs.length→off < Flat.size α→Flat.enc x'=(Flat.enc (xs.getD i d)).set off v→(zbm xs).set (i * Flat.size α + off) v=zbm (xs.set i x'):=by
 induction xs with
 | nil=>intro i off v x' d hi;simp at hi
 | cons x xs ih =>
  intro i off v x' d hi ho hx
  cases i with
  | zero =>
   rw[zeh,Nat.zero_mul,Nat.zero_add,List.set_append_left _ _ (by rw[Flat.len];exact ho),List.set_cons_zero,zeh,hx]
   rfl
  | succ i =>
   rw[zeh,List.set_append_right _ _ (by rw[Flat.len,Nat.add_mul];omega),Flat.len,List.set_cons_succ,zeh]
   congr 1
   have:(i + 1) * Flat.size α + off - Flat.size α=i * Flat.size α + off:=by rw[Nat.add_mul];omega
   rw[this]
   exact ih i off v x' d (by simpa using hi) ho hx
theorem zbrc (xs:List α):∀ (i:Nat) (x':α),i < xs.length→splice (zbm xs) (i * Flat.size α) (Flat.enc x')=zbm (xs.set i x'):=by
 induction xs with
 | nil=>intro i x' hi;simp at hi
 | cons x xs ih =>
  intro i x' hi
  cases i with
  | zero =>
   rw[Nat.zero_mul,splice,List.take_zero,List.nil_append,zeh,Nat.zero_add,Flat.len,List.set_cons_zero,zeh]
   congr 1
   rw[List.drop_append_of_le_length (by rw[Flat.len];exact Nat.le_refl _),List.drop_eq_nil_of_le (by rw[Flat.len];exact Nat.le_refl _)]
   rfl
  | succ i =>
   have h1:=ih i x' (by simpa using hi)
   have e:(i + 1) * Flat.size α=Flat.size α + i * Flat.size α:=by rw[Nat.add_mul];omega
   rw[splice] at h1 ⊢
   rw[zeh,e,List.take_append,Flat.len,List.take_of_length_le (by rw[Flat.len];omega),Nat.add_sub_cancel_left,List.set_cons_succ,zeh,← h1,List.append_assoc,Nat.add_assoc,List.drop_append,List.drop_eq_nil_of_le (by rw[Flat.len];omega),List.nil_append,Flat.len,Flat.len,Nat.add_sub_cancel_left]
def slB:V→Nat | .slice (some a) _ _=>a.block | _=>0
def slO:V→Nat | .slice (some a) _ _=>a.off | _=>0
def Sl (H:Heap) (v:V) (xs:List α):Prop:=(v = .slice none 0 0∧xs=[])∨∃ b o u c,v=slc b o u xs.length c∧xs.length≤c∧b < H.next∧(xs=[]∨∃ rw cs,H.get b=some (.cells rw cs)∧o + xs.length * Flat.size α≤cs.length∧(cs.drop o).take (xs.length * Flat.size α)=zbm xs)∧(u=0∨u=Flat.size α)
theorem Sl.nil (H:Heap):Sl H (.slice none 0 0) ([]:List α) := .inl ⟨rfl,rfl⟩
theorem Sl.keep {S:List Nat} {H H':Heap} {v:V} {l:List α} (h:Sl H v l) (hk:Keeps S H H') (hn:∀ b∈vb v,b ∉ S):Sl H' v l:=by
 rcases h with h | ⟨b,o,u,c,rfl,hc,hb,hl,hu⟩
 ·exact .inl h
 ·refine .inr ⟨b,o,u,c,rfl,hc,Nat.lt_of_lt_of_le hb hk.next,?_,hu⟩
  rcases hl with hl | ⟨rw,cs,h1,h2⟩
  ·exact .inl hl
  ·exact .inr ⟨rw,cs,hk.get h1 (hn b (by simp)),h2⟩
theorem Sl.keep0 {H H':Heap} {v:V} {l:List α} (h:Sl H v l) (hk:Keeps [] H H'):Sl H' v l:=h.keep hk (by simp)
theorem Sl.len {H:Heap} {v:V} {l:List α} (h:Sl H v l):zt v=some (i64 l.length):=by
 rcases h with⟨rfl,rfl⟩ | ⟨b,o,u,c,rfl,_⟩ <;> rfl
theorem Sl.lt {H:Heap} {v:V} {l:List α} (h:Sl H v l):∀ b∈vb v,b < H.next:=by
 rcases h with⟨rfl,rfl⟩ | ⟨b,o,u,c,rfl,hc,hb,hl⟩
 ·simp
 ·simpa using hb
theorem Sl.isOne {H:Heap} {v:V} {l:List α} (h:Sl H v l):v.isOne=true:=by
 rcases h with⟨rfl,rfl⟩ | ⟨b,o,u,c,rfl,_⟩ <;> rfl
theorem Sl.addr {H:Heap} {v:V} {l:List α} (h:Sl H v l) {k:IntKind} {i:Int} (h0:0≤i) (hi:i < l.length):zq (Flat.size α) v (.int k i)=some (ptr (slB v) (slO v + i.toNat * Flat.size α)):=by
 rcases h with⟨rfl,rfl⟩ | ⟨b,o,u,c,rfl,_⟩
 ·simp at hi;omega
 ·exact zbcq h0 hi
theorem zbzf (cs:List V) (xs:List α) (o i:Nat) (hi:i < xs.length) (d:α) (hl:(cs.drop o).take (xs.length * Flat.size α)=zbm xs):(cs.drop (o + i * Flat.size α)).take (Flat.size α)=Flat.enc (xs.getD i d):=by
 have e1:((zbm xs).drop (i * Flat.size α)).take (Flat.size α)=Flat.enc (xs.getD i d):=by
  rw[zbgm]
  have:xs.drop i=xs.getD i d :: xs.drop (i + 1):=by
   rw[List.getD_eq_getElem?_getD,List.getElem?_eq_getElem hi]
   exact List.drop_eq_getElem_cons hi
  rw[this,zeh,List.take_append_of_le_length (by rw[Flat.len];exact Nat.le_refl _),List.take_of_length_le (by rw[Flat.len];exact Nat.le_refl _)]
 rw[← e1,← hl,List.drop_take,List.take_take,List.drop_drop]
 congr 1
 have:(i + 1) * Flat.size α≤xs.length * Flat.size α:=Nat.mul_le_mul_right _ hi
 rw[Nat.add_mul] at this
 omega
theorem Sl.ldn {H:Heap} {v:V} {l:List α} (h:Sl H v l) {i:Nat} (hi:i < l.length) (d:α) {Q:V→Heap→Prop}:wp (ldn (Flat.size α) (ptr (slB v) (slO v + i * Flat.size α))) Q H↔Q (.agg (Flat.enc (l.getD i d)).toArray) H:=by
 rcases h with⟨rfl,rfl⟩ | ⟨b,o,u,c,rfl,hc,_,hl,_⟩
 ·simp at hi
 ·rcases hl with rfl | ⟨rw,cs,hb,hl1,hl2⟩
  ·simp at hi
  ·have h1:(i + 1) * Flat.size α≤l.length * Flat.size α:=Nat.mul_le_mul_right _ hi
   rw[Nat.add_mul] at h1
   show wp (Go.AM.ldn _ (ptr b (o + i * Flat.size α))) Q H↔_
   rw[zbt9 hb (by omega),zbzf cs l o i hi d hl2]
theorem Sl.cell {H:Heap} {v:V} {l:List α} (h:Sl H v l) {i off:Nat} (hi:i < l.length) (ho:off < Flat.size α) (d:α):ztr H (ptr (slB v) (slO v + i * Flat.size α + off))=(Flat.enc (l.getD i d))[off]? := by
 rcases h with⟨rfl,rfl⟩ | ⟨b,o,u,c,rfl,hc,_,hl,_⟩
 ·simp at hi
 ·rcases hl with rfl | ⟨rw,cs,hb,hl1,hl2⟩
  ·simp at hi
  ·show ztr H (ptr b (o + i * Flat.size α + off))=_
   rw[zbgl hb,← zbzf cs l o i hi d hl2,List.getElem?_take,if_pos ho,List.getElem?_drop]
theorem Sl.addr' {H:Heap} {v:V} {l:List α} (h:Sl H v l) {n:Nat} (hs:Flat.size α=n) {k:IntKind} {i:Int} (h0:0≤i) (hi:i < l.length):zq n v (.int k i)=some (ptr (slB v) (slO v + i.toNat * n)):=by subst hs;exact h.addr h0 hi
theorem Sl.ldn' {H:Heap} {v:V} {l:List α} (h:Sl H v l) {n:Nat} (hs:Flat.size α=n) {i:Nat} (hi:i < l.length) (d:α) {Q:V→Heap→Prop}:wp (Go.AM.ldn n (ptr (slB v) (slO v + i * n))) Q H↔Q (.agg (Flat.enc (l.getD i d)).toArray) H:=by subst hs;exact h.ldn hi d
theorem Sl.cell' {H:Heap} {v:V} {l:List α} (h:Sl H v l) {n:Nat} (hs:Flat.size α=n) {i off:Nat} (hi:i < l.length) (ho:off < n) (d:α):ztr H (ptr (slB v) (slO v + i * n + off))=(Flat.enc (l.getD i d))[off]? := by subst hs;exact h.cell hi ho d
theorem Sl.addr1 {H:Heap} {v:V} {l:List α} (h:Sl H v l) (hs:Flat.size α=1) {k:IntKind} {i:Int} (h0:0≤i) (hi:i < l.length):zq 1 v (.int k i)=some (ptr (slB v) (slO v + i.toNat)):=by
 have:=h.addr (k:=k) h0 hi
 rw[hs,Nat.mul_one] at this
 exact this
theorem Sl.cell1 {H:Heap} {v:V} {l:List α} (h:Sl H v l) (hs:Flat.size α=1) {i:Nat} (hi:i < l.length) (d:α):ztr H (ptr (slB v) (slO v + i))=(Flat.enc (l.getD i d))[0]? := by
 have:=h.cell (off:=0) hi (by omega) d
 rw[hs,Nat.mul_one,Nat.add_zero] at this
 exact this
theorem Own.sl {H:Heap} {v:V} {l:List α} (hs:Flat.size α=1) (h:Own H v (zbm l)):Sl H v l:=by
 rcases h with⟨rfl,hl⟩ | ⟨b,rfl,hb⟩
 ·refine .inl ⟨rfl,?_⟩
  have:=congrArg List.length hl
  rw[zb6,hs] at this
  exact List.eq_nil_of_length_eq_zero (by simpa using this)
 ·have e:(zbm l).length=l.length:=by rw[zb6,hs,Nat.mul_one]
  refine .inr ⟨b,0,1,l.length,by rw[e],Nat.le_refl _,Heap.get_lt hb,.inr ⟨true,zbm l,hb,by rw[zb6];omega,?_⟩,.inr hs.symm⟩
  rw[List.drop_zero,List.take_of_length_le (by rw[zb6];exact Nat.le_refl _)]
end Go.AM
