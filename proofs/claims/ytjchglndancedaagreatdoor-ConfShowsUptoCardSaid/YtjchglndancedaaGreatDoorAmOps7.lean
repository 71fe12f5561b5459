import Derived.Test.YtjchglndancedaaGreatDoorAmOps4
import Derived.Laws.Append
set_option linter.all false
/- Operations that make and write memory: words. -/
namespace Go.AM
open Go.RowKit (Below)
variable {P:Program} {N:Nat} {w₀:World} {ρ:Ren} {H:Heap} {w:World}
structure Ext (ρ:Ren) (H:Heap) (w:World) (ρ':Ren) (H':Heap) (w':World):Prop where
 le:ρ.le ρ'
 same:∀ b,b < H.next→ρ' b=ρ b
 next:H.next≤H'.next
 apart:zbyi ρ H w w'
 old:∀ b x L,H'.get b=some x→ρ' b=some L→w.heap.size≤L.blk∨∃ b₀ x₀ L₀,H.get b₀=some x₀∧ρ b₀=some L₀∧L₀.blk=L.blk
theorem Ext.refl (ρ:Ren) (H:Heap) (w:World):Ext ρ H w ρ H w :=
 ⟨.refl _,fun _ _=>rfl,Nat.le_refl _,.refl _ _ _,fun b x L h g => .inr ⟨b,x,L,h,g,rfl⟩⟩
theorem Ext.trans {ρ₁ ρ₂ ρ₃:Ren} {H₁ H₂ H₃:Heap} {w₁ w₂ w₃:World} (h:Ext ρ₁ H₁ w₁ ρ₂ H₂ w₂) (g:Ext ρ₂ H₂ w₂ ρ₃ H₃ w₃):Ext ρ₁ H₁ w₁ ρ₃ H₃ w₃:=by
 refine⟨h.le.trans g.le,fun b hb=>(g.same b (Nat.lt_of_lt_of_le hb h.next)).trans (h.same b hb),Nat.le_trans h.next g.next,⟨Nat.le_trans h.apart.1 g.apart.1,fun c hc hn=>?_⟩,fun b x L hb hL=>?_⟩
 ·have h1:=h.apart.2 c hc hn
  have h2:w₃.heap[c]? = w₂.heap[c]? := g.apart.2 c (Nat.lt_of_lt_of_le hc h.apart.1) fun b x L hb hL he=>by
   rcases h.old b x L hb hL with q | ⟨b₀,x₀,L₀,q1,q2,q3⟩
   ·omega
   ·exact hn b₀ x₀ L₀ q1 q2 (q3.trans he)
  exact h2.trans h1
 ·rcases g.old b x L hb hL with q | ⟨b₀,x₀,L₀,q1,q2,q3⟩
  ·exact .inl (Nat.le_trans h.apart.1 q)
  ·rcases h.old b₀ x₀ L₀ q1 q2 with q | ⟨b₁,x₁,L₁,r1,r2,r3⟩
   ·exact .inl (by omega)
   ·exact .inr ⟨b₁,x₁,L₁,r1,r2,r3.trans q3⟩
theorem zben (h:Rel N w₀ ρ H w) (x:Blk) (o:Obj) (L:Loc) (hL:L.blk=w.heap.size) (hx:BRel N (ρ.add H.next L) (w.alloc o) L x) :
  Rel N w₀ (ρ.add H.next L) (H.push (some x)) (w.alloc o)∧Ext ρ H w (ρ.add H.next L) (H.push (some x)) (w.alloc o)∧ρ.add H.next L H.next=some L:=by
 have hno:ρ H.next=none:=h.dom _ (Nat.le_refl _)
 have hold:∀ k,k < w.heap.size→(w.alloc o).heap[k]? = w.heap[k]? := fun k hk=>by
  show (w.heap.push o)[k]? = _
  rw[Array.getElem?_push,if_neg (by omega)]
 refine⟨h.alloc x o L hL hx,⟨Ren.le_add L hno,fun b hb=>?_,?_,⟨by simp,fun c hc _=>hold c hc⟩,fun b y K hb hK=>?_⟩,by simp[Ren.add]⟩
 ·unfold Ren.add;rw[if_neg (by omega)]
 ·rw[Heap.next_push];omega
 ·rw[Heap.get_push] at hb
  unfold Ren.add at hK
  split at hb
  ·rename_i e;rw[if_pos e] at hK;cases hK;left;omega
  ·rename_i e;rw[if_neg e] at hK;exact .inr ⟨b,y,K,hb,hK,rfl⟩
theorem zbpu (h:Rel N w₀ ρ H w) (cs:List V) (C:Array V) (e:TypeId) (f:Nat × Nat) (hf:∀ i,i < C.size→¬ (f.1≤i∧i < f.2)) (hl:cs.length≤C.size) (hc:LRel ρ cs (C.toList.take cs.length)) :
  ∃ ρ',Rel N w₀ ρ' (H.push (some (.cells true cs))) (w.alloc (.cells C e f))∧Ext ρ H w ρ' (H.push (some (.cells true cs))) (w.alloc (.cells C e f))∧ρ' H.next=some ⟨w.heap.size,0,C.size⟩:=by
 have hno:ρ H.next=none:=h.dom _ (Nat.le_refl _)
 refine⟨_,zben h (.cells true cs) (.cells C e f) ⟨w.heap.size,0,C.size⟩ rfl ⟨C,e,f,?_,rfl,⟨fun _=>⟨h.big,hf⟩,fun q=>by cases q⟩,by simpa using hl,?_⟩⟩
 ·show (w.heap.push _)[w.heap.size]? = _
  simp
 ·simpa using hc.mono (Ren.le_add _ hno)
theorem zbu2 (h:Rel N w₀ ρ H w) {b:Nat} {x y:Blk} {L:Loc} (hb:H.get b=some x) (hL:ρ b=some L) (w':World) (hold:∀ k,k≠L.blk→w'.heap[k]? = w.heap[k]?) (hsz:w'.heap.size=w.heap.size) :
  Ext ρ H w ρ (H.set b (some y)) w':=by
 refine⟨.refl _,fun _ _=>rfl,by rw[Heap.next_set];exact Nat.le_refl _,⟨by omega,fun c hc hn=>hold c fun e=>hn b x L hb hL e.symm⟩,fun c z K hc hK=>?_⟩
 rw[Heap.get_set H b _ c (Heap.get_lt hb)] at hc
 split at hc
 ·rename_i e;subst e;rw[hL] at hK;cases hK;exact .inr ⟨c,x,L,hb,hL,rfl⟩
 ·exact .inr ⟨c,z,K,hc,hK,rfl⟩
theorem zbhv {b:Nat} {x:Blk} (hb:H.get b=some x):Ext ρ H w ρ (H.set b none) w:=by
 refine⟨.refl _,fun _ _=>rfl,by rw[Heap.next_set];exact Nat.le_refl _,.refl _ _ _,fun c z K hc hK=>?_⟩
 rw[Heap.get_set H b _ c (Heap.get_lt hb)] at hc
 split at hc
 ·cases hc
 ·exact .inr ⟨c,z,K,hc,hK,rfl⟩
theorem z1c (l m:List V) (o j:Nat) (h:o + m.length≤l.length):(splice l o m)[j]? = if j < o then l[j]? else if j < o + m.length then m[j - o]? else l[j]? := by
 unfold splice
 have h1:(l.take o).length=o:=by simp;omega
 by_cases hj:j < o
 ·rw[if_pos hj,List.getElem?_append_left (by omega)];simp[List.getElem?_take,hj]
 ·rw[if_neg hj,List.getElem?_append_right (by omega),h1]
  by_cases hk:j < o + m.length
  ·rw[if_pos hk,List.getElem?_append_left (by omega)]
  ·rw[if_neg hk,List.getElem?_append_right (by omega),List.getElem?_drop]
   congr 1;omega
theorem zz9 (C vs:List V) (off o n:Nat) (h1:off + n≤C.length) (h2:o + vs.length≤n):((splice C (off + o) vs).drop off).take n=splice ((C.drop off).take n) o vs:=by
 apply List.ext_getElem?
 intro j
 rw[z1c _ _ _ _ (by simp;omega),List.getElem?_take,List.getElem?_drop,z1c _ _ _ _ (by omega)]
 simp only[List.getElem?_take,List.getElem?_drop]
 by_cases hj:j < n
 ·rw[if_pos hj]
  by_cases h3:j < o
  ·rw[if_pos (by omega),if_pos h3,if_pos hj]
  ·rw[if_neg (by omega),if_neg h3]
   by_cases h4:j < o + vs.length
   ·rw[if_pos (by omega),if_pos h4];congr 1;omega
   ·rw[if_neg (by omega),if_neg h4,if_pos hj]
 ·rw[if_neg hj,if_neg (by omega),if_neg (by omega),if_neg hj]
theorem zbkm (l:List V) (o:Nat) (x:V) (h:o < l.length):l.set o x=splice l o [x]:=by
 apply List.ext_getElem?
 intro j
 rw[z1c _ _ _ _ (by simp;omega),List.getElem?_set]
 by_cases hj:j < o
 ·rw[if_neg (by omega),if_pos hj]
 ·by_cases h2:o=j
  ·subst h2;simp[h]
  ·rw[if_neg h2,if_neg hj,if_neg (by simp;omega)]
theorem zbta {v:V} (h:v.isOne=true):v.oneCell'=true:=by cases v <;> simp_all [Value.isOne,Value.oneCell']
theorem zv3 (b off:Nat) (e:TypeId) (f:Nat × Nat):∀ (vs:List V) (i:Nat) (C:Array V) (w:World),w.heap[b]? = some (.cells C e f)→off + i + vs.length≤C.size →
  (∀ j,j < C.size→¬ (f.1≤j∧j < f.2))→vs.all Value.isOne=true →
  ∃ w',(storeCells ⟨b,off,none⟩ vs i).run P w = .ok () w'∧w'.heap.size=w.heap.size∧w'.os=w.os∧w'.tape=w.tape∧w'.output=w.output∧(∀ k,k≠b→w'.heap[k]? = w.heap[k]?) ∧
   ∃ C',w'.heap[b]? = some (.cells C' e f)∧C'.toList=splice C.toList (off + i) vs∧C'.size=C.size
 | [],i,C,w,hb,_,_,_=>⟨w,rfl,rfl,rfl,rfl,rfl,fun _ _=>rfl,C,hb,by simp[splice],rfl⟩
 | v :: vs,i,C,w,hb,hl,hf,h1=>by
  simp only[List.all_cons,Bool.and_eq_true] at h1
  simp only[List.length_cons] at hl
  have hlt:off + i < C.size:=by omega
  have hc:w.cell? ⟨b,off + i,none⟩=some C[off + i]:=by rw[zbg7 hb];simp[hlt]
  have hz:w.frozen? ⟨b,off + i,none⟩=false:=by
   simp only[World.frozen?,hb]
   have:=hf (off + i) hlt
   simp only[Bool.and_eq_false_iff,decide_eq_false_iff_not]
   omega
  have hst:(store ⟨b,off + i,none⟩ v).run P w = .ok () (w.setCell ⟨b,off + i,none⟩ v):=by
   rw[run_store P w _ v _ (zbta h1.1)]
   simp[hc,hz]
  have hb':(w.setCell ⟨b,off + i,none⟩ v).heap[b]? = some (.cells (C.setIfInBounds (off + i) v) e f):=by
   simp only[World.setCell,Array.getElem?_modify,if_true,hb]
   rfl
  obtain⟨w',r1,r2,r3,r4,r5,r6,C',r7,r8,r9⟩:=zv3 b off e f vs (i + 1) (C.setIfInBounds (off + i) v) _ hb' (by simp;omega) (by simpa using hf) h1.2
  refine⟨w',?_,by rw[r2];simp,r3,r4,r5,fun k hk=>(r6 k hk).trans ?_,C',r7,?_,by simpa using r9⟩
  ·simp only[storeCells,Sem.run_bind,zbs6,hst,Result.andThen_ok,r1]
  ·simp only[World.setCell,Array.getElem?_modify]
   rw[if_neg (by simpa using fun e=>hk e.symm)]
  ·rw[r8,Array.toList_setIfInBounds]
   have:=zbhl C.toList (off + i) v vs (by simpa using hlt)
   unfold splice
   rw[← Nat.add_assoc]
   exact this
theorem zbaj (h:Rel N w₀ ρ H w) {b o:Nat} {cs vs vs':List V} (hb:H.get b=some (.cells true cs)) {L:Loc} (hL:ρ b=some L) (hle:o + vs.length≤cs.length) (hv:LRel ρ vs vs') (h1:vs'.all Value.isOne=true) :
  ∃ w',(storeCells ⟨L.blk,L.off + o,none⟩ vs').run P w = .ok () w'∧Rel N w₀ ρ (H.set b (some (.cells true (splice cs o vs)))) w'∧Ext ρ H w ρ (H.set b (some (.cells true (splice cs o vs)))) w':=by
 obtain⟨C,e,f,c1,c2,c3,c4,c5⟩:=h.cells hb hL
 have hlen:=hv.length
 obtain⟨w',r1,r2,r3,r4,r5,r6,C',r7,r8,r9⟩:=zv3 (P:=P) L.blk (L.off + o) e f vs' 0 C w c1 (by omega) (c3 rfl).2 h1
 refine⟨w',r1,h.put hb hL (c3 rfl).1 w' r3 r4 r5 r2 r6 ⟨C',e,f,r7,by omega,⟨fun _=>⟨(c3 rfl).1,by rw[r9];exact (c3 rfl).2⟩,fun q=>by cases q⟩,by rw[zyx _ _ _ hle];omega,?_⟩,zbu2 h hb hL w' r6 r2⟩
 rw[r8,zyx _ _ _ hle,Nat.add_zero,zz9 _ _ _ _ _ (by simp;omega) (by omega)]
 exact c5.splice hv o
theorem z1d:∀ {l l':List V},LRel ρ l l'→l.all Value.isOne=true→l'.all Value.isOne=true
 | _,_,.nil,_=>rfl
 | _,_,.cons h g,ha=>by
  simp only[List.all_cons,Bool.and_eq_true] at ha ⊢
  exact⟨h.isOne ha.1,z1d g ha.2⟩
theorem zbwg (h:Rel N w₀ ρ H w) {p p' v v' r:V} {H':Heap} {t:TypeId} (ht:tk P t=some .one) (hs:st1 p v H=some (r,H')) (hp:VRel ρ p p') (hv:VRel ρ v v') :
  r=undef∧∃ w',(Instr.storeAt t p' v').run P w = .ok () w'∧Rel N w₀ ρ H' w'∧Ext ρ H w ρ H' w':=by
 unfold st1 at hs
 split at hs
 ·rename_i b o
  split at hs
  ·rename_i cs hb
   split at hs
   ·rename_i hc
    cases hs
    simp only[Bool.and_eq_true,decide_eq_true_eq] at hc
    obtain⟨L,hL,rfl⟩:=hp.ptr_inv
    have hv1:=hv.isOne hc.1
    obtain⟨w',g1,g2,g3⟩:=zbaj (P:=P) (o:=o) h hb hL (vs:=[v]) (vs':=[v']) (by simp;omega) (.cons hv .nil) (by simp[hv1])
    rw[← zbkm cs o v hc.2] at g2 g3
    refine⟨rfl,w',?_,g2,g3⟩
    simp[Instr.storeAt,Instr.sureAddr,storeVar,(zbni ht).2 w,z7q hv1,g1]
   ·cases hs
  ·cases hs
 ·cases hs
theorem zbwh (h:Rel N w₀ ρ H w) {p p' v v' r:V} {H':Heap} {t:TypeId} {n:Nat} (ht:tk P t=some (.agg n)) (hs:stn n p v H=some (r,H')) (hp:VRel ρ p p') (hv:VRel ρ v v') :
  r=undef∧∃ w',(Instr.storeAt t p' v').run P w = .ok () w'∧Rel N w₀ ρ H' w'∧Ext ρ H w ρ H' w':=by
 unfold stn at hs
 split at hs
 ·rename_i b o vs
  split at hs
  ·rename_i cs hb
   split at hs
   ·rename_i hc
    cases hs
    simp only[Bool.and_eq_true,decide_eq_true_eq,beq_iff_eq] at hc
    obtain⟨⟨hc1,hc2⟩,hc3⟩:=hc
    obtain⟨L,hL,rfl⟩:=hp.ptr_inv
    obtain⟨A,rfl,hA⟩:=hv.agg_inv
    obtain⟨w',g1,g2,g3⟩:=zbaj (P:=P) (o:=o) h hb hL (vs:=vs.toList) (vs':=A.toList) (by omega) hA (z1d hA hc1)
    have hsz:A.size=n:=by have:=hA.length;simp at *;omega
    refine⟨rfl,w',?_,g2,g3⟩
    simp[Instr.storeAt,Instr.sureAddr,storeVar,(zbem ht).2 w,Value.cells,hsz,g1]
   ·cases hs
  ·cases hs
 ·cases hs
end Go.AM

/- Operations that make and write memory. -/
namespace Go.AM
open Go.RowKit (Below)
variable {P:Program} {N:Nat} {w₀:World} {ρ:Ren} {H:Heap} {w:World}
def zxv (N:Nat) (w₀:World) (ρ:Ren) (H:Heap) (w:World) (r:V) (H':Heap) (r':V) (w':World):Prop :=
 ∃ ρ',VRel ρ' r r'∧Rel N w₀ ρ' H' w'∧Ext ρ H w ρ' H' w'
def MkOK (N:Nat) (ρ:Ren) (w:World) (v:V) (x:Blk) (r':V) (w':World):Prop :=
 ∃ o nd sz,w'=({ w with drawn:=nd }:World).alloc o∧(∀ ρ₂:Ren,ρ.le ρ₂→BRel N ρ₂ w' ⟨w.heap.size,0,sz⟩ x)∧∀ (ρ₂:Ren) id,ρ₂ id=some ⟨w.heap.size,0,sz⟩→VRel ρ₂ (zun id v) r'
theorem zbb7 (hN:N≤w.heap.size) (nd:Nat) (cs:List V) (C:Array V) (e:TypeId) (f:Nat × Nat) (hf:∀ i,i < C.size→¬ (f.1≤i∧i < f.2)) (hl:cs.length≤C.size) (hc:LRel ρ cs (C.toList.take cs.length)) (v r':V)
  (hv:∀ (ρ₂:Ren) id,ρ₂ id=some ⟨w.heap.size,0,C.size⟩→VRel ρ₂ (zun id v) r'):MkOK N ρ w v (.cells true cs) r' (({ w with drawn:=nd }:World).alloc (.cells C e f)):=by
 refine⟨_,nd,C.size,rfl,fun ρ₂ hle=>⟨C,e,f,?_,rfl,⟨fun _=>⟨hN,hf⟩,fun q=>by cases q⟩,by simpa using hl,by simpa using hc.mono hle⟩,hv⟩
 show (w.heap.push _)[w.heap.size]? = _
 simp
theorem z7u (h:Rel N w₀ ρ H w) {v:V} {x:Blk} {r':V} {w':World} (hm:MkOK N ρ w v x r' w'):zxv N w₀ ρ H w (zun H.next v) (H.push (some x)) r' w':=by
 obtain⟨o,nd,sz,rfl,h1,h2⟩:=hm
 have hno:ρ H.next=none:=h.dom _ (Nat.le_refl _)
 obtain⟨g1,g2,g3⟩:=zben (h.drew nd) x o ⟨w.heap.size,0,sz⟩ rfl (h1 _ (Ren.le_add _ hno))
 exact⟨_,h2 _ _ g3,g1,⟨g2.le,g2.same,g2.next,⟨g2.apart.1,g2.apart.2⟩,g2.old⟩⟩
theorem zbmb (hN:N≤w.heap.size) (t:TypeId) {cs:List V} {v':V} (hc:LRel ρ cs v'.cells.toList) :
  ∃ r' w',(do pure (Value.pointer (some (← newVar t v'))):Sem Value).run P w = .ok r' w'∧MkOK N ρ w (ptr 0 0) (.cells true cs) r' w':=by
 have hl:=hc.length
 refine⟨.pointer (some ⟨w.heap.size,0,none⟩),_,?_,zbb7 hN w.drawn cs v'.cells t (0,0) (by simp) (by simp at hl;omega) (by rw[List.take_of_length_le (by omega)];exact hc) (ptr 0 0) _ fun ρ₂ id hid=>?_⟩
 ·simp[newVar,newRow]
 ·have:=VRel.ptr id 0 _ hid;simpa[zun] using this
theorem zbwi {cs:List V} {r:V} {H':Heap} (hn:newc cs H=some (r,H')):newc cs Heap.none0=some (ptr 0 0,Heap.one (.cells true cs))∧r=ptr H.next 0∧H'=H.push (some (.cells true cs)):=by
 unfold newc at hn ⊢
 split at hn
 ·rename_i hf;cases hn;exact⟨by rw[if_pos hf];rfl,rfl,rfl⟩
 ·cases hn
theorem zbu3 (hN:N≤w.heap.size) {t:TypeId} {z v:V} {K:Heap} (hz:zf5 P t=some z) (hn:newc z.cells.toList Heap.none0=some (v,K)) :
  ∃ x,K=Heap.one x∧∃ r' w',(Instr.alloc t true (.tuple #[])).run P w = .ok r' w'∧MkOK N ρ w v x r' w':=by
 unfold newc at hn
 split at hn
 ·rename_i hf
  cases hn
  obtain⟨r',w',g1,g2⟩:=zbmb (P:=P) (N:=N) (ρ:=ρ) hN t (zbah hf)
  refine⟨_,rfl,r',w',?_,g2⟩
  simp only[Instr.alloc,Sem.run_bind,zi4 hz w,Result.andThen_ok]
  simpa using g1
 ·cases hn
theorem zbwj {v r:V} {H':Heap} (hn:zdc v H=some (r,H')):∃ x,zdc v Heap.none0=some (ptr 0 0,Heap.one x)∧r=ptr H.next 0∧H'=H.push (some x):=by
 unfold zdc at hn ⊢
 split at hn
 ·rename_i hf;cases hn;exact⟨_,by rw[if_pos hf];rfl,rfl,rfl⟩
 ·cases hn
theorem zbu4 (hN:N≤w.heap.size) {t:TypeId} {v v' r:V} {K:Heap} (hv:VRel ρ v v') (hn:zdc v Heap.none0=some (r,K)) :
  ∃ x,K=Heap.one x∧∃ r' w',(Instr.box t v').run P w = .ok r' w'∧MkOK N ρ w r x r' w':=by
 unfold zdc at hn
 split at hn
 ·rename_i hf
  cases hn
  exact⟨_,rfl,zbmb (P:=P) hN t (hv.cells hf)⟩
 ·cases hn
theorem zbwk {t:TypeId} {v r:V} {H':Heap} (hn:bldM t v H=some (r,H')):∃ x,bldM t v Heap.none0=some (ptr 0 0,Heap.one x)∧r=ptr H.next 0∧H'=H.push (some x):=by
 unfold bldM at hn ⊢
 split at hn
 ·cases hn;exact⟨_,rfl,rfl,rfl⟩
 ·cases hn
theorem zbu5 (hN:N≤w.heap.size) {t:TypeId} {v v' r:V} {K:Heap} (hv:VRel ρ v v') (hn:bldM t v Heap.none0=some (r,K)) :
  ∃ x,K=Heap.one x∧∃ r' w',(Instr.box t v').run P w = .ok r' w'∧MkOK N ρ w r x r' w':=by
 unfold bldM at hn
 split at hn
 ·rename_i hc
  cases hn
  have hl:=hv.cells (by rw[hc];decide)
  rw[hc] at hl
  have hv':v'.cells=#[.pointer none,.slice none 0 0]:=by
   generalize hq:v'.cells.toList=q at hl
   have:v'.cells=q.toArray:=by rw[← hq]
   rw[this]
   cases hl with
   | cons h1 h2=>cases h1;cases h2 with
    | cons h3 h4=>cases h3;cases h4;rfl
  refine⟨_,rfl,.pointer (some ⟨w.heap.size,0,none⟩),({ w with drawn:=w.drawn }:World).alloc (.cells v'.cells t (0,0)),?_,_,w.drawn,2,rfl,fun ρ₂ hle=>?_,fun ρ₂ id hid=>?_⟩
  ·simp[Instr.box,newVar,newRow]
  ·refine⟨rfl,hN,.slice none 0 0,?_,.inl ⟨rfl,rfl,rfl⟩⟩
   rw[hv']
   show (w.heap.push _)[w.heap.size]? = _
   simp
  ·have:=VRel.ptr id 0 _ hid;simpa[zun] using this
 ·cases hn
theorem zbu6 {z:List V} (hz:0 < z.length):∀ (n i:Nat),i < n * z.length→(rep n z)[i]? = z[i % z.length]?
 | 0,i,h=>by simp at h
 | n + 1,i,h=>by
  simp only[rep]
  by_cases hi:i < z.length
  ·rw[List.getElem?_append_left hi,Nat.mod_eq_of_lt hi]
  ·rw[List.getElem?_append_right (by omega),zbu6 hz n (i - z.length) (by rw[Nat.add_mul] at h;omega)]
   congr 1
   rw[← Nat.mod_eq_sub_mod (by omega)]
theorem zv4 (z:List V):∀ n,(rep n z).length=n * z.length
 | 0=>by simp[rep]
 | n + 1=>by simp[rep,zv4 z n,Nat.add_mul];omega
theorem zbnk {z:List V} (h:LRel ρ z z):∀ n,LRel ρ (rep n z) (rep n z)
 | 0 => .nil
 | n + 1=>h.append (zbnk h n)
theorem zbhx (z:Array V) (n:Nat) (hz:0 < z.size):((Array.range (n * z.size)).map fun i=>z[i % z.size]!).toList=rep n z.toList:=by
 apply List.ext_getElem?
 intro i
 by_cases hi:i < n * z.size
 ·have hlt:i % z.size < z.size:=Nat.mod_lt _ hz
  rw[zbu6 (by simpa using hz) n i (by simpa using hi)]
  simp[hi,hlt,getElem!_pos]
 ·rw[List.getElem?_eq_none (by simp;omega),List.getElem?_eq_none (by rw[zv4];simp;omega)]
theorem zbeo {l:List V} (h:l.all zge=true):LRel ρ l l:=by
 induction l with
 | nil=>exact .nil
 | cons x xs ih=>simp only[List.all_cons,Bool.and_eq_true] at h;exact .cons (zpu h.1) (ih h.2)
theorem zbak {α:Type} (f:Nat→α):(Array.range 0).map f=#[]:=Array.eq_empty_of_size_eq_zero (by simp)
theorem Ext.drawn {ρ':Ren} {H':Heap} {w':World} {n:Nat} (g:Ext ρ H { w with drawn:=n } ρ' H' w'):Ext ρ H w ρ' H' w':=⟨g.le,g.same,g.next,⟨g.apart.1,g.apart.2⟩,g.old⟩
theorem zbpv {n:Int} (h0:0≤n) (h1:n≤9223372036854775807):IntKind.i64.wrap n=n:=IntWalk.i64_in n ⟨by omega,h1⟩
theorem zbpw (hN:N≤w.heap.size) {t e:TypeId} {size bytes:Nat} {z n c n' c' r:V} {K:Heap} (hu:P.underlying t=some (.slice e)) (hs:zfu P e=some size) (hb:zn7 P e=some bytes) (hz:zf5 P e=some z)
  (hsz:z.cells.size=size) (h0:0 < size) (hn:VRel ρ n n') (hc:VRel ρ c c') (hm:zul size bytes z.cells.toList n c Heap.none0=some (r,K)) :
  ∃ x,K=Heap.one x∧∃ r' w',(Instr.makeSlice t n' c').run P w = .ok r' w'∧MkOK N ρ w r x r' w':=by
 unfold zul at hm
 split at hm
 ·rename_i k x k' y
  split at hm
  ·rename_i hcond
   obtain⟨hfl,hx0,hxy,hyb,hyb2⟩:=hcond
   cases hm
   obtain⟨i,hi,hib⟩:=zv2 hb w
   have e1:=hn.int_inv;have e2:=hc.int_inv
   subst e1;subst e2
   have hwx:IntKind.i64.wrap x=x:=zbpv hx0 (by omega)
   have hwy:IntKind.i64.wrap y=y:=zbpv (by omega) (by omega)
   have hC:((Array.range (y.toNat * size)).map fun i=>z.cells[i % z.cells.size]!).toList=rep y.toNat z.cells.toList:=by rw[← hsz];exact zbhx z.cells y.toNat (by omega)
   have hlen:((Array.range (y.toNat * size)).map fun i=>z.cells[i % z.cells.size]!).size=(rep y.toNat z.cells.toList).length:=by rw[← hC];simp
   refine⟨_,rfl,.slice (some ⟨w.heap.size,0,none⟩) x.toNat y.toNat,_,?_,zbb7 hN w.drawn (rep y.toNat z.cells.toList) ((Array.range (y.toNat * size)).map fun i=>z.cells[i % z.cells.size]!) e (0,0) (by simp) (by omega)
    (by rw[hC,List.take_of_length_le (Nat.le_refl _)];exact zbnk (zbeo hfl) _) _ _ fun ρ₂ id hid => .slc id 0 size x.toNat y.toNat _ 0 y.toNat _ hid (.inl rfl) (by omega) (Nat.le_refl _) (.inr ?_) (.inl rfl) (.inr (by omega))⟩
   ·have hb1:¬ (y < 0):=by omega
    have hb2:¬ ((bytes:Int) * y > 2 ^ 48):=by have:(2:Int) ^ 48=281474976710656:=rfl;omega
    have hb3:¬ (x < 0):=by omega
    have hb4:¬ (x > y):=by omega
    simp only[Instr.makeSlice,Sem.run_bind,run_underlying hu,Result.andThen_ok,asInt,asIntOf,Sem.run_pure,hi,hwx,hwy,hib]
    simp only[hb1,hb2,hb3,hb4,decide_false,Bool.or_self,Bool.false_eq_true,or_self,if_false,Sem.run_bind,run_askRoom,Result.andThen_ok,zdr hs w,Bool.or_false]
    by_cases q:y.toNat * size=0
    ·simp only[q,if_true,Sem.run_pure,Result.andThen_ok,Sem.run_bind,newRow,run_newObj,zbak]
     rfl
    ·simp[q,newRow,zi4 hz w]
   ·show 0 + y.toNat * size≤_
    rw[hlen,zv4];simp[hsz]
  ·cases hm
 ·cases hm
theorem zbu7 (hN:N≤w.heap.size) {t e:TypeId} {size len:Nat} {z r:V} {K:Heap} {parts:Array (Nat × Operand)} {ev c:Operand→V} (hr:∀ z,VRel ρ (ev z) (c z)) (hu:P.underlying t=some (.slice e)) (hs:zfu P e=some size) (hz:zf5 P e=some z)
  (hlen:len * size≤16777216) (hsz:z.cells.size=size) (h0:0 < size) (hm:zcc size len (rep len z.cells.toList) (zm6 size ev parts.toList) Heap.none0=some (r,K)) :
  ∃ x,K=Heap.one x∧∃ r' w',(Instr.buildSlice t len (parts.map fun p=>(p.1,c p.2))).run P w = .ok r' w'∧MkOK N ρ w r x r' w':=by
 unfold zcc at hm
 split at hm
 ·rename_i hfl
  split at hm
  ·rename_i cs hcs
   cases hm
   have hC:((Array.range (len * size)).map fun i=>z.cells[i % z.cells.size]!).toList=rep len z.cells.toList:=by rw[← hsz];exact zbhx z.cells len (by omega)
   obtain⟨D,hD,hrel⟩:=zbag _ (z39 (size:=size) hr parts.toList) _ ((Array.range (len * size)).map fun i=>z.cells[i % z.cells.size]!) cs (by rw[hC];exact zbeo hfl) hcs
   have hDl:cs.length=D.size:=by have:=hrel.length;simpa using this
   have hfa:∀ {qs:List (Nat × Nat × V)} {l m:List V},zbu l qs=some m→m.length=l.length:=by
    intro qs
    induction qs with
    | nil=>intro l m hq;simp only[zbu] at hq;cases hq;rfl
    | cons q qs ih =>
     intro l m hq
     obtain⟨o,s,v⟩:=q
     simp only[zbu] at hq
     split at hq
     ·rename_i hc
      simp only[Bool.and_eq_true,beq_iff_eq,decide_eq_true_eq] at hc
      rw[ih hq,zyx]
      have:=hc.1.2
      simp at *;omega
     ·cases hq
   have hcl:cs.length=len * size:=by rw[hfa hcs,zv4];simp[hsz]
   refine⟨_,rfl,.slice (some ⟨w.heap.size,0,none⟩) len len,_,?_,zbb7 hN w.drawn cs D e (0,0) (by simp) (by omega) (by rw[List.take_of_length_le (by simp;omega)];exact hrel) _ _
    fun ρ₂ id hid => .slc id 0 size len len _ 0 len _ hid (.inl rfl) (Nat.le_refl _) (Nat.le_refl _) (.inr ?_) (.inl rfl) (.inr (by have:=Nat.le_mul_of_pos_right len h0;omega))⟩
   ·have hD':Instr.fill (fun i=>some (i * size,size)) ((Array.range (len * size)).map fun i=>z.cells[i % z.cells.size]!) (parts.map fun p=>(p.1,c p.2)).toList=some D:=by simpa using hD
    simp only[Instr.buildSlice,Sem.run_bind,run_underlying hu,Result.andThen_ok,zdr hs w]
    rw[if_neg (by omega)]
    by_cases q:len * size=0
    ·simp only[q,if_true,Sem.run_pure,Result.andThen_ok]
     rw[q,zbak] at hD'
     simp only[zbak,Sem.run_bind,Sem.run_pure,Result.andThen_ok]
     rw[hD']
     simp[newRow]
    ·simp only[q,if_false,Sem.run_bind,zi4 hz w,Result.andThen_ok,Sem.run_pure]
     rw[hD']
     simp[newRow]
   ·show 0 + len * size≤D.size
    omega
  ·cases hm
 ·cases hm
theorem zyz (s:ByteArray):(zn6 s).length=s.size:=by simp[zn6]
theorem zbal (s:ByteArray):LRel ρ (zn6 s) (zn6 s):=by
 unfold zn6
 induction s.data.toList with
 | nil=>exact .nil
 | cons x xs ih=>exact .cons (.int _ _) ih
theorem zbpx (a:Array Obj) (x:Obj) (f:Obj→Obj):(a.push x).modify a.size f=a.push (f x):=by
 apply Array.ext
 ·simp
 ·intro i h1 h2
  simp only[Array.size_modify,Array.size_push] at h1
  simp only[Array.getElem_modify,Array.getElem_push]
  by_cases hi:i < a.size
  ·rw[if_neg (by omega)];simp[hi]
  ·rw[if_pos (by omega)];simp[hi]
theorem zbyp (hN:N≤w.heap.size) {e:TypeId} {a a' r:V} {K:Heap} (ha:VRel ρ a a') (hm:s2b a Heap.none0=some (r,K)) :
  ∃ x,K=Heap.one x∧∃ s r' w',a' = .string s∧(Conv.stringToBytes e s).run P w = .ok r' w'∧MkOK N ρ w r x r' w':=by
 unfold s2b at hm
 split at hm
 ·rename_i s
  split at hm
  rotate_left
  ·cases hm
  rename_i hsz
  cases hm
  have hq:∃ cap n,(choose (.appendCap s.size 0 e)).run P w = .ok cap { w with drawn:=n } ∧ s.size≤cap∧cap≤9223372036854775807:=by
   simp only[run_choose,Question.forced,Bool.false_eq_true,if_false,Question.cut]
   exact⟨_,_,rfl,Nat.le_add_right _ _,by have:=Nat.mod_lt (w.tape w.drawn (.appendCap s.size 0 e)) (show 0 < 2 ^ 63 - s.size by omega);omega⟩
  obtain⟨cap,nd,hch,hcap,hcmx⟩:=hq
  let C:Array V:=s.data.map (fun b=>Value.int .u8 b.toNat) ++ Array.replicate (cap - s.size) (.int .u8 0)
  have hCs:C.size=cap:=by simp only[C,Array.size_append,Array.size_map,Array.size_replicate];have:s.data.size=s.size:=rfl;omega
  have hCl:C.toList=zn6 s ++ List.replicate (cap - s.size) (.int .u8 0):=by simp[C,zn6]
  refine⟨_,rfl,s,.slice (some ⟨w.heap.size,0,none⟩) s.size cap,_,ha.string_inv,?_,zbb7 hN nd (zn6 s) C e (cap,cap + 1) (by simp only[hCs];omega) (by rw[zyz];omega)
   (by rw[hCl,List.take_append_of_le_length (Nat.le_refl _),List.take_of_length_le (Nat.le_refl _)];exact zbal s) _ _
   fun ρ₂ id hid => .slc id 0 1 s.size s.size _ 0 cap _ hid (.inl rfl) (Nat.le_refl _) hcap (.inr (by simp[hCs])) (.inl rfl) (.inr hcmx)⟩
  have hsh:∀ o,(({ w with drawn:=nd }:World).alloc (.cells C e o)).shape? w.heap.size=some (e,cap):=by
   intro o
   show (match (w.heap.push (Obj.cells C e o))[w.heap.size]? with | some (.cells c elem _)=>some (elem,c.size) | _=>none)=_
   simp[hCs]
  simp only[Conv.stringToBytes,Sem.run_bind,hch,Result.andThen_ok,newRow,run_newObj,Sem.run_pure,markStringish,run_shape]
  have hsh':=hsh (0,0)
  have e1:({ w with heap:=w.heap.push (Obj.cells C e (0,0)),drawn:=nd }:World).shape? w.heap.size=some (e,cap):=hsh'
  have e2:(({ w with heap:=w.heap.push (Obj.cells C e (0,0)),drawn:=nd }:World).freeze ⟨w.heap.size,cap,none⟩ 1)=({ w with drawn:=nd }:World).alloc (.cells C e (cap,cap + 1)):=by
   simp only[World.freeze,World.alloc]
   rw[if_neg (by omega)]
   rw[zbpx]
   simp
  show (Result.andThen (Sem.run P (match ({ w with heap:=w.heap.push (Obj.cells C e (0,0)),drawn:=nd }:World).shape? w.heap.size with | some (_,n)=>_ | _=>_) _) _)=_
  rw[e1]
  simp only[run_freeze,Result.andThen_ok]
  rw[e2]
 ·cases hm
theorem zbtb {size bytes:Nat} {z:List V} {n c r:V} {H':Heap} (hn:zul size bytes z n c H=some (r,H')):∃ v x,zul size bytes z n c Heap.none0=some (v,Heap.one x)∧r=zun H.next v∧H'=H.push (some x):=by
 unfold zul at hn ⊢
 split at hn
 ·split at hn
  ·rename_i hf;cases hn;exact⟨_,_,by simp only[hf,and_self,if_true];rfl,rfl,rfl⟩
  ·cases hn
 ·cases hn
theorem zbwl {size len:Nat} {z:List V} {parts:List (Nat × Nat × V)} {r:V} {H':Heap} (hn:zcc size len z parts H=some (r,H')):∃ v x,zcc size len z parts Heap.none0=some (v,Heap.one x)∧r=zun H.next v∧H'=H.push (some x):=by
 unfold zcc at hn ⊢
 split at hn
 ·rename_i hf
  rw[if_pos hf]
  split at hn
  ·rename_i cs hcs;cases hn;refine⟨slc 0 0 size len len,.cells true cs,?_,rfl,rfl⟩;first | rfl | (rw[hcs];rfl)
  ·cases hn
 ·cases hn
theorem zbyq {a r:V} {H':Heap} (hn:s2b a H=some (r,H')):∃ v x,s2b a Heap.none0=some (v,Heap.one x)∧r=zun H.next v∧H'=H.push (some x):=by
 unfold s2b at hn ⊢
 split at hn
 ·split at hn
  ·rename_i hc
   cases hn
   simp only[if_pos hc]
   exact⟨_,_,rfl,rfl,rfl⟩
  ·cases hn
 ·cases hn
theorem zbpy (hN:N≤w.heap.size):MkOK N ρ w (.map (some 0)) (.map true []) (.map (some w.heap.size)) (w.alloc (.map #[] 0)) :=
 ⟨_,w.drawn,0,rfl,fun ρ₂ _=>⟨rfl,#[],0,by show (w.heap.push _)[w.heap.size]? = _;simp,fun _=>⟨hN,zbpl 0⟩,.nil,.nil⟩,fun ρ₂ id hid => .map id _ hid⟩
theorem zbtc (h:Rel N w₀ ρ H w) {t:TypeId} {z r:V} {H':Heap} (hz:zf5 P t=some z) (hn:newc z.cells.toList H=some (r,H')) :
  ∃ r' w',(Instr.alloc t true (.tuple #[])).run P w = .ok r' w'∧zxv N w₀ ρ H w r H' r' w':=by
 obtain⟨h1,rfl,rfl⟩:=zbwi hn
 obtain⟨x,hx,r',w',g1,g2⟩:=zbu3 (P:=P) (N:=N) (ρ:=ρ) h.big hz h1
 cases hx
 exact⟨r',w',g1,by simpa[zun] using z7u h g2⟩
theorem zbtd (h:Rel N w₀ ρ H w) {t:TypeId} {v v' r:V} {H':Heap} (hv:VRel ρ v v') (hn:zdc v H=some (r,H')) :
  ∃ r' w',(Instr.box t v').run P w = .ok r' w'∧zxv N w₀ ρ H w r H' r' w':=by
 obtain⟨x,h1,rfl,rfl⟩:=zbwj hn
 obtain⟨x2,hx,r',w',g1,g2⟩:=zbu4 (P:=P) (t:=t) h.big hv h1
 cases hx
 exact⟨r',w',g1,by simpa[zun] using z7u h g2⟩
theorem zbte (h:Rel N w₀ ρ H w) {t:TypeId} {v v' r:V} {H':Heap} (hv:VRel ρ v v') (hn:bldM t v H=some (r,H')) :
  ∃ r' w',(Instr.box t v').run P w = .ok r' w'∧zxv N w₀ ρ H w r H' r' w':=by
 obtain⟨x,h1,rfl,rfl⟩:=zbwk hn
 obtain⟨x2,hx,r',w',g1,g2⟩:=zbu5 (P:=P) (t:=t) h.big hv h1
 cases hx
 exact⟨r',w',g1,by simpa[zun] using z7u h g2⟩
theorem zbpz (h:Rel N w₀ ρ H w) {t e:TypeId} {size bytes:Nat} {z n c n' c' r:V} {H':Heap} (hu:P.underlying t=some (.slice e)) (hs:zfu P e=some size) (hb:zn7 P e=some bytes) (hz:zf5 P e=some z)
  (hsz:z.cells.size=size) (h0:0 < size) (hn:VRel ρ n n') (hc:VRel ρ c c') (hm:zul size bytes z.cells.toList n c H=some (r,H')) :
  ∃ r' w',(Instr.makeSlice t n' c').run P w = .ok r' w'∧zxv N w₀ ρ H w r H' r' w':=by
 obtain⟨v,x,h1,rfl,rfl⟩:=zbtb hm
 obtain⟨x2,hx,r',w',g1,g2⟩:=zbpw (P:=P) (t:=t) h.big hu hs hb hz hsz h0 hn hc h1
 cases hx
 exact⟨r',w',g1,z7u h g2⟩
theorem zbtf (h:Rel N w₀ ρ H w) {t e:TypeId} {size len:Nat} {z r:V} {H':Heap} {parts:Array (Nat × Operand)} {ev c:Operand→V} (hr:∀ z,VRel ρ (ev z) (c z)) (hu:P.underlying t=some (.slice e)) (hs:zfu P e=some size) (hz:zf5 P e=some z)
  (hlen:len * size≤16777216) (hsz:z.cells.size=size) (h0:0 < size) (hm:zcc size len (rep len z.cells.toList) (zm6 size ev parts.toList) H=some (r,H')) :
  ∃ r' w',(Instr.buildSlice t len (parts.map fun p=>(p.1,c p.2))).run P w = .ok r' w'∧zxv N w₀ ρ H w r H' r' w':=by
 obtain⟨v,x,h1,rfl,rfl⟩:=zbwl hm
 obtain⟨x2,hx,r',w',g1,g2⟩:=zbu7 (P:=P) (t:=t) h.big hr hu hs hz hlen hsz h0 h1
 cases hx
 exact⟨r',w',g1,z7u h g2⟩
theorem zbwm (h:Rel N w₀ ρ H w) {e:TypeId} {a a' r:V} {H':Heap} (ha:VRel ρ a a') (hm:s2b a H=some (r,H')) :
  ∃ s r' w',a' = .string s∧(Conv.stringToBytes e s).run P w = .ok r' w'∧zxv N w₀ ρ H w r H' r' w':=by
 obtain⟨v,x,h1,rfl,rfl⟩:=zbyq hm
 obtain⟨x2,hx,s,r',w',g0,g1,g2⟩:=zbyp (P:=P) (e:=e) h.big ha h1
 cases hx
 exact⟨s,r',w',g0,g1,z7u h g2⟩
end Go.AM

/- append and copy; maps that are written. -/
namespace Go.AM
open Go.RowKit (Below)
variable {P:Program} {N:Nat} {w₀:World} {ρ:Ren} {H:Heap} {w:World}
theorem zb60 (h:Rel N w₀ ρ H w) (y:Blk) (L:Loc) (hN:N≤L.blk) (hfree:∀ b x M,H.get b=some x→ρ b=some M→M.blk≠L.blk) (w':World)
  (hos:w'.os=w.os) (htape:w'.tape=w.tape) (hout:w'.output=w.output) (hsz:w'.heap.size=w.heap.size) (hold:∀ k,k≠L.blk→w'.heap[k]? = w.heap[k]?)
  (hy:BRel N (ρ.add H.next L) w' L y):Rel N w₀ (ρ.add H.next L) (H.push (some y)) w':=by
 have hno:ρ H.next=none:=h.dom _ (Nat.le_refl _)
 have hle:=Ren.le_add L hno
 refine⟨h.below.trans ⟨hos,htape,hout,by omega,fun k hk=>hold k (by omega)⟩,by rw[hsz];exact h.big,fun b hb=>?_,fun b hb=>by obtain⟨s,hs⟩:=h.base b hb;exact⟨s,hle _ _ hs⟩,fun b x hb=>?_,fun b b' x x' K K' hb hb' hne hK hK'=>?_⟩
 ·rw[Heap.next_push] at hb
  unfold Ren.add;rw[if_neg (by omega)]
  exact h.dom b (by omega)
 ·rw[Heap.get_push] at hb
  split at hb
  ·rename_i e;cases hb;subst e;exact⟨L,by simp[Ren.add],hy⟩
  ·obtain⟨K,hK,hr⟩:=h.blk b x hb
   exact⟨K,hle _ _ hK,hr.mono hle (hold _ (hfree b x K hb hK))⟩
 ·rw[Heap.get_push] at hb hb'
  unfold Ren.add at hK hK'
  by_cases e:b=H.next
  ·have e':b'≠H.next:=fun q=>hne (e.trans q.symm)
   rw[if_pos e] at hK;rw[if_neg e'] at hb' hK'
   cases hK
   exact fun q=>hfree b' x' K' hb' hK' q.symm
  ·by_cases e':b'=H.next
   ·rw[if_neg e] at hb hK;rw[if_pos e'] at hK'
    cases hK'
    exact hfree b x K hb hK
   ·rw[if_neg e] at hb hK;rw[if_neg e'] at hb' hK'
    exact h.inj b b' x x' K K' hb hb' hne hK hK'
structure Src (P:Program) (w:World) (ρ:Ren) (t u ty e:TypeId) (size bytes m:Nat) (z:V) (new:List V) (x':V):Prop where
 ex:∃ new',LRel ρ new new' ∧
  (∀ (base:Option Addr) (len ccap:Nat) (w':World),len + m≤ccap→(match base with | some a=>(storeCells (a.add (len * size)) new').run P w = .ok () w' | none=>w'=w) →
   (Builtin.append_ #[t,u] ty #[.slice base len ccap,x']).run P w = .ok (.slice base (len + m) ccap) w') ∧
  (∀ (base:Option Addr) (len ccap:Nat) (old':List V),(∀ q,(Builtin.firstCells size len (.slice base len ccap)).run P { w with drawn:=q } = .ok old'.toArray { w with drawn:=q })→¬ len + m≤ccap→(len + m) * bytes≤140737488355328→len + m≤35184372088832 →
   ∃ cap q,(len + m≤cap∧cap≤9223372036854775807)∧(Builtin.append_ #[t,u] ty #[.slice base len ccap,x']).run P w =
    .ok (.slice (some ⟨w.heap.size,0,none⟩) (len + m) cap) (({ w with drawn:=q }:World).alloc (.cells (old'.toArray ++ (new'.toArray ++ Builtin.zeroCells z.cells (cap - (len + m)))) e)))
theorem zbam (C old new:List V) (off:Nat) (hold:(C.drop off).take old.length=old) (h:off + old.length + new.length≤C.length) :
  ((splice C (off + old.length) new).drop off).take (old ++ new).length=old ++ new:=by
 have h1:=zz9 C new off old.length (old.length + new.length) (by omega) (by omega)
 rw[List.length_append,h1]
 apply List.ext_getElem?
 intro j
 rw[z1c _ _ _ _ (by simp;omega),List.getElem?_append]
 simp only[List.getElem?_take,List.getElem?_drop]
 by_cases hj:j < old.length
 ·rw[if_pos hj,if_pos hj,if_pos (by omega)]
  have:=congrArg (·[j]?) hold
  simpa[List.getElem?_take,hj,List.getElem?_drop] using this
 ·rw[if_neg hj,if_neg hj]
  by_cases h2:j < old.length + new.length
  ·rw[if_pos h2]
  ·rw[if_neg h2,if_neg h2,List.getElem?_eq_none (by omega)]
theorem zbhy (z:Array V) (n:Nat):(Builtin.zeroCells z n).size=n * z.size:=by simp[Builtin.zeroCells]
theorem zbyr {n c t:Nat} {e:TypeId} (h:n≤140737488355328):(Question.appendCap n c e).cut t≤9223372036854775807:=by
 show n + t % (2 ^ 63 - n)≤9223372036854775807
 have:=Nat.mod_lt t (show 0 < 2 ^ 63 - n by omega)
 omega
def AppT (P:Program) (u:TypeId):Prop:=(∃ q,P.underlying u=some (.slice q))∨P.underlying u=some .string
theorem z4b {t u ty e:TypeId} {size n len ccap:Nat} {x':V} {base:Option Addr} {new':List V} {w':World} (hu:P.underlying t=some (.slice e)) (hd:AppT P u) (hsz:(sizeOf e).run P w = .ok size w)
  (hlen:(Builtin.lenOf x').run P w = .ok n w) (hfw:(Builtin.firstCells size n x').run P w = .ok new'.toArray w) (hfit:len + n≤ccap)
  (hst:match base with | some a=>(storeCells (a.add (len * size)) new').run P w = .ok () w' | none=>w'=w) :
  (Builtin.append_ #[t,u] ty #[.slice base len ccap,x']).run P w = .ok (.slice base (len + n) ccap) w':=by
 rcases hd with⟨q,hd⟩ | hd <;> cases base with
 | none=>simp only at hst;subst hst;simp[Builtin.append_,run_underlying hu,run_underlying hd,hsz,hlen,hfw,hfit]
 | some a=>simp only at hst;simp[Builtin.append_,run_underlying hu,run_underlying hd,hsz,hlen,hfw,hfit,hst]
theorem zbnl {t u ty e:TypeId} {size bytes n len ccap:Nat} {z x':V} {base:Option Addr} {old' new':List V} (hu:P.underlying t=some (.slice e)) (hd:AppT P u) (hsz:zfu P e=some size) (hb:zn7 P e=some bytes) (hz:zf5 P e=some z) (hb0:0 < bytes)
  (hlen:(Builtin.lenOf x').run P w = .ok n w) (hfo:∀ q,(Builtin.firstCells size len (.slice base len ccap)).run P { w with drawn:=q } = .ok old'.toArray { w with drawn:=q })
  (hfn:∀ q,(Builtin.firstCells size n x').run P { w with drawn:=q } = .ok new'.toArray { w with drawn:=q }) (hno:¬ len + n≤ccap) (hbig:(len + n) * bytes≤140737488355328) :
  ∃ cap q,(len + n≤cap∧cap≤9223372036854775807)∧(Builtin.append_ #[t,u] ty #[.slice base len ccap,x']).run P w =
   .ok (.slice (some ⟨w.heap.size,0,none⟩) (len + n) cap) (({ w with drawn:=q }:World).alloc (.cells (old'.toArray ++ (new'.toArray ++ Builtin.zeroCells z.cells (cap - (len + n)))) e)):=by
 obtain⟨i,hi,hib⟩:=zv2 hb w
 have hi2:∀ q,(typeInfo e).run P { w with drawn:=q } = .ok i { w with drawn:=q } := by
  intro q
  obtain⟨j,hj,_⟩:=zv2 hb ({ w with drawn:=q }:World)
  have:i=j:=by
   simp only[typeInfo,Sem.run_bind,run_program,Result.andThen_ok] at hi hj
   cases hq:P.info? e with
   | none=>simp[hq] at hi
   | some x=>simp[hq] at hi hj;rw[← hi,← hj]
  rw[this];exact hj
 have hgf:¬ (Builtin.nextslicecap (len + n) ccap * bytes > 281474976710656):=by have:=growslice_fits (bytes:=bytes) (show ccap < len + n by omega) hbig;omega
 refine⟨(Question.appendCap (len + n) ccap e).cut (w.tape w.drawn (.appendCap (len + n) ccap e)),w.drawn + 1,⟨Nat.le_add_right _ _,zbyr (by have:=Nat.le_mul_of_pos_right (len + n) hb0;omega)⟩,?_⟩
 have hbn:¬ (i.bytes=0):=by omega
 have hgf':¬ (281474976710656 < Builtin.nextslicecap (len + n) ccap * i.bytes):=by rw[hib];omega
 have k1:(typeInfo e).run P w.drew = .ok i w.drew:=hi2 (w.drawn + 1)
 have k2:(Builtin.firstCells size len (.slice base len ccap)).run P w.drew = .ok old'.toArray w.drew:=hfo (w.drawn + 1)
 have k3:(Builtin.firstCells size n x').run P w.drew = .ok new'.toArray w.drew:=hfn (w.drawn + 1)
 have k4:(zeroValue e).run P w.drew = .ok z w.drew:=zi4 hz _
 have k5:(Question.appendCap (len + n) ccap e).forced=false:=rfl
 rcases hd with⟨qq,hd⟩ | hd <;>
  simp[Builtin.append_,run_underlying hu,run_underlying hd,zdr hsz w,hlen,hno,hi,hbn,hgf',k1,k2,k3,k4,k5,newRow]
theorem zbys {t u ty e:TypeId} {size bytes n:Nat} {z x':V} {new new':List V} (hu:P.underlying t=some (.slice e)) (hd:AppT P u) (hsz:zfu P e=some size) (hb:zn7 P e=some bytes) (hz:zf5 P e=some z) (hb0:0 < bytes)
  (hlen:(Builtin.lenOf x').run P w = .ok n w) (hfn:∀ q,(Builtin.firstCells size n x').run P { w with drawn:=q } = .ok new'.toArray { w with drawn:=q }) (hr:LRel ρ new new'):Src P w ρ t u ty e size bytes n z new x' :=
 ⟨new',hr,fun base len ccap w' h1 h2=>z4b hu hd (zdr hsz w) hlen (hfn w.drawn) h1 h2,
  fun base len ccap old' h1 h2 h3 _=>zbnl hu hd hsz hb hz hb0 hlen h1 hfn h2 h3⟩
theorem wrap_i64 {n:Nat} (h:n≤35184372088832):IntKind.i64.wrap (n:Int)=n:=by
 rw[IntKind.wrap_i64];omega
theorem zbyt {t u ty e:TypeId} {k k2:IntKind} {size bytes n:Nat} {z:V} {new':List V} (hu:P.underlying t=some (.slice e)) (hd:P.underlying u=some (.int k)) (hsz:zfu P e=some size) (hb:zn7 P e=some bytes) (hz:zf5 P e=some z) (hb0:0 < bytes) (h0:0 < size)
  (hn:n * bytes≤35184372088832) (hn2:n≤35184372088832) (hnew:new'.toArray=Builtin.zeroCells z.cells n) {new:List V} (hr:LRel ρ new new'):Src P w ρ t u ty e size bytes n z new (.int k2 n):=by
 obtain⟨i,hi,hib⟩:=zv2 hb w
 have hw:=wrap_i64 hn2
 have hl:¬ ((n:Int) < 0):=by omega
 have hmul:(n:Int) * (i.bytes:Int)=((n * bytes:Nat):Int):=by rw[hib];exact (Int.natCast_mul n bytes).symm
 have hm:¬ (281474976710656 < (n:Int) * (i.bytes:Int)):=by rw[hmul];omega
 have hzr:∀ v:World,(zeroValue e).run P v = .ok z v:=fun v=>zi4 hz v
 have hnil:n * size=0→new'=[]∧Builtin.zeroCells z.cells n=#[]:=fun h1=>by
  have:n=0:=by rcases Nat.mul_eq_zero.mp h1 with h | h <;> omega
  subst this
  have e1:Builtin.zeroCells z.cells 0=#[]:=by simp[Builtin.zeroCells]
  refine⟨?_,e1⟩
  rw[e1] at hnew
  simpa using congrArg Array.toList hnew
 have htl:(Builtin.zeroCells z.cells n).toList=new':=by rw[← hnew]
 refine⟨new',hr,fun base len ccap w' h1 h2=>?_,fun base len ccap old' h1 h2 h3 h4=>?_⟩
 ·cases base with
  | none =>
   simp only at h2;rw[h2]
   simp[Builtin.append_,run_underlying hu,run_underlying hd,zdr hsz w,asInt,asIntOf,hw,hl,hi,hm,h1,hzr]
  | some a =>
   simp only at h2
   by_cases hn0:n * size=0
   ·rw[(hnil hn0).1] at h2
    simp[Builtin.append_,run_underlying hu,run_underlying hd,zdr hsz w,asInt,asIntOf,hw,hl,hi,hm,h1,hn0,h2]
   ·simp[Builtin.append_,run_underlying hu,run_underlying hd,zdr hsz w,asInt,asIntOf,hw,hl,hi,hm,h1,hzr,hn0,htl,h2]
 ·have hi2:∀ q,(typeInfo e).run P { w with drawn:=q } = .ok i { w with drawn:=q } := by
   intro q
   obtain⟨j,hj,_⟩:=zv2 hb ({ w with drawn:=q }:World)
   have:i=j:=by
    simp only[typeInfo,Sem.run_bind,run_program,Result.andThen_ok] at hi hj
    cases hq:P.info? e with
    | none=>simp[hq] at hi
    | some x=>simp[hq] at hi hj;rw[← hi,← hj]
   rw[this];exact hj
  have hgf:¬ (Builtin.nextslicecap (len + n) ccap * bytes > 281474976710656):=by have:=growslice_fits (bytes:=bytes) (show ccap < len + n by omega) h3;omega
  refine⟨(Question.appendCap (len + n) ccap e).cut (w.tape w.drawn (.appendCap (len + n) ccap e)),w.drawn + 1,⟨Nat.le_add_right _ _,zbyr (by omega)⟩,?_⟩
  have hgf':¬ (281474976710656 < Builtin.nextslicecap (len + n) ccap * i.bytes):=by rw[hib];omega
  have hbig:¬ ((9223372036854775807:Int) < (len:Int) + n):=by omega
  have k1:(typeInfo e).run P w.drew = .ok i w.drew:=hi2 (w.drawn + 1)
  have k2:(Builtin.firstCells size len (.slice base len ccap)).run P w.drew = .ok old'.toArray w.drew:=h1 (w.drawn + 1)
  have k5:(Question.appendCap (len + n) ccap e).forced=false:=rfl
  by_cases hn0:n * size=0
  ·rw[(hnil hn0).1]
   simp[Builtin.append_,run_underlying hu,run_underlying hd,zdr hsz w,asInt,asIntOf,hw,hl,hi,hm,h2,hgf',hbig,k1,k2,k5,hn0,hzr,newRow,IntKind.max,IntKind.signed,IntKind.bits]
  ·simp[Builtin.append_,run_underlying hu,run_underlying hd,zdr hsz w,asInt,asIntOf,hw,hl,hi,hm,h2,hgf',hbig,k1,k2,k5,hn0,hzr,hnew,newRow,IntKind.max,IntKind.signed,IntKind.bits]
set_option maxHeartbeats 1000000 in
theorem z4c (h:Rel N w₀ ρ H w) {t u ty e:TypeId} {size bytes n:Nat} {z s s' x' r:V} {new:List V} {H':Heap} (hu:P.underlying t=some (.slice e))
  (hsz:zfu P e=some size) (hb:zn7 P e=some bytes) (hz:zf5 P e=some z) (hzs:z.cells.size=size) (h0:0 < size) (hb0:0 < bytes) (hs:VRel ρ s s')
  (hsrc:Src P w ρ t u ty e size bytes n z new x') (hnl:new.length=n * size) (hm:zvu size bytes s n (some new) H=some (r,H')) :
  ∃ r' w',(Builtin.append_ #[t,u] ty #[s',x']).run P w = .ok r' w'∧zxv N w₀ ρ H w r H' r' w':=by
 obtain⟨new',hnew,hfits,hgrows⟩:=hsrc.ex
 have hnl':new'.length=n * size:=by rw[← hnew.length,hnl]
 unfold zvu at hm
 split at hm
 ·rename_i x len cap
  split at hm
  ·-- nothing is appended
   rename_i hn0
   cases hm
   subst hn0
   refine⟨s',w,?_,ρ,hs,h,.refl _ _ _⟩
   have hne:new'=[]:=List.eq_nil_of_length_eq_zero (by simpa using hnl')
   generalize s'=s2 at hs
   cases hs with
   | snil=>exact hfits _ _ _ _ (Nat.le_refl _) rfl
   | slc b o u2 len cap L co ccap ca hL ho hl hc hss hca hmx=>exact hfits _ _ _ _ (by omega) (by rw[hne];rfl)
  ·rename_i hn0
   split at hm
   ·rename_i new2 old K hnew2 hold hK
    cases hnew2
    split at hm
    ·rename_i hcond
     obtain⟨hc1,hc2,hc3,hc4⟩:=hcond
     cases hm
     have hnew1:=z1d hnew hc3
     have hmain:∃ base ccap old',s' = .slice base len ccap∧LRel ρ old old'∧old'.length=len * size∧(∀ n,(Builtin.firstCells size len s').run P { w with drawn:=n } = .ok old'.toArray { w with drawn:=n })∧Rel N w₀ ρ K w∧K.next=H.next∧Ext ρ H w ρ K w ∧
       (len + n≤ccap→∃ cb co C el f,base=some ⟨cb,co,none⟩∧w.heap[cb]? = some (.cells C el f)∧co + (len + n) * size≤C.size∧N≤cb∧(∀ i,i < C.size→¬ (f.1≤i∧i < f.2))∧(C.toList.drop co).take old'.length=old' ∧
        (∀ b x M,K.get b=some x→ρ b=some M→M.blk≠cb)∧(∃ b x M,H.get b=some x∧ρ b=some M∧M.blk=cb)):=by
      generalize hs2:s'=s2 at hs
      cases hs with
      | snil =>
       simp only[zbf] at hold;cases hold
       simp only[zsp] at hK;cases hK
       refine⟨none,0,[],rfl,.nil,by simp,fun q=>by simp[Builtin.firstCells],h,rfl,.refl _ _ _,fun q=>by omega⟩
      | slc b o u2 len cap L co ccap ca hL ho hl hc hss hca hmx =>
       simp only[zsp] at hK
       split at hK
       ·rename_i cs hb2
        split at hK
        ·rename_i hu2
         cases hK
         subst hu2
         obtain⟨C,el,f,c1,c2,c3,c4,c5⟩:=h.cells hb2 hL
         have hold':∃ old',LRel ρ old old'∧old'.length=len * u2∧(∀ j v,old'[j]? = some v→w.cell? ⟨L.blk,co + j,none⟩=some v)∧(co + len * u2≤C.size→(C.toList.drop co).take old'.length=old'):=by
          simp only[zbf] at hold
          split at hold
          ·rename_i hl0;cases hold;exact⟨[],.nil,by simp[hl0],by simp,by simp⟩
          ·rename_i hl0
           have hco:co=L.off + o:=by rcases ho with ho | ho <;> omega
           subst hco
           obtain⟨q1,old',q2,q3⟩:=h.cellsAt hold hL
           have q4:old'.length=len * u2:=by rw[← q2.length];exact q1
           refine⟨old',q2,q4,q3,fun hle=>?_⟩
           apply List.ext_getElem?
           intro j
           by_cases hj:j < old'.length
           ·have:=q3 j old'[j] (by simp[hj])
            rw[zbg7 c1] at this
            simp only[List.getElem?_take,hj,if_true,List.getElem?_drop,List.getElem?_eq_getElem hj]
            simpa using this
           ·simp[List.getElem?_take,hj,List.getElem?_eq_none (Nat.le_of_not_lt hj)]
         obtain⟨old',o1,o2,o3,o4⟩:=hold'
         rcases hca with rfl | hz0
         rotate_left
         ·obtain rfl:len=0:=by omega
          have:old'=[]:=List.eq_nil_of_length_eq_zero (by simpa using o2)
          refine⟨_,ccap,old',rfl,o1,o2,fun q=>?_,h.kill hb2,Heap.next_set _ _ _,zbhv hb2,fun hroom=>by omega⟩
          rw[this];simp[Builtin.firstCells,loadCells,loadCellsFrom]
         refine⟨_,ccap,old',rfl,o1,o2,fun q=>?_,h.kill hb2,Heap.next_set _ _ _,zbhv hb2,fun hroom=>?_⟩
         ·simp only[Builtin.firstCells]
          have:=zi5 (P:=P) (w:={ w with drawn:=q }) (b:=L.blk) (o:=co) (l:=old') o3
          rw[o2] at this;exact this
         ·have hsize:co + ccap * u2≤C.size:=by
           rcases hss with q | q
           ·omega
           ·omega
          have hmul:(len + n) * u2≤ccap * u2:=Nat.mul_le_mul_right _ hroom
          have hmul2:len * u2≤(len + n) * u2:=Nat.mul_le_mul_right _ (by omega)
          refine⟨L.blk,co,C,el,f,rfl,c1,by omega,(c3 rfl).1,(c3 rfl).2,o4 (by omega),fun b' x' M hb' hM=>?_,b,_,L,hb2,hL,rfl⟩
          rw[Heap.get_set H b _ _ (Heap.get_lt hb2)] at hb'
          split at hb'
          ·cases hb'
          ·rename_i hne
           exact h.inj b' b x' _ M L hb' hb2 hne hM hL
        ·cases hK
       ·cases hK
     obtain⟨base,ccap,old',rfl,hro,holdl,hfo,hRK,hKn,hEK,hroom⟩:=hmain
     have hdist:(len + n) * size=len * size + n * size:=Nat.add_mul _ _ _
     by_cases hfit:len + n≤ccap
     ·-- there is room
      obtain⟨cb,co,C,el,f,rfl,hcb,hcs,hNcb,hfz,hpre,hfree,halive⟩:=hroom hfit
      obtain⟨w',r1,r2,r3,r4,r5,r6,C',r7,r8,r9⟩:=zv3 (P:=P) cb (co + len * size) el f new' 0 C w hcb (by omega) hfz hnew1
      have hlay:(C'.toList.drop co).take (old ++ new).length=old' ++ new':=by
       have e1:(old ++ new).length=(old' ++ new').length:=by simp[hro.length,hnew.length]
       rw[e1,r8,Nat.add_zero,← holdl]
       exact zbam C.toList old' new' co hpre (by simp;omega)
      have hno:ρ K.next=none:=hRK.dom _ (Nat.le_refl _)
      have hR:=zb60 hRK (.cells true (old ++ new)) ⟨cb,co,C.size⟩ hNcb hfree w' r3 r4 r5 r2 r6
       ⟨C',el,f,r7,r9,⟨fun _=>⟨hNcb,by rw[r9];exact hfz⟩,fun q=>by cases q⟩,by simp[hro.length,hnew.length];omega,by
        show LRel _ (old ++ new) ((C'.toList.drop co).take (old ++ new).length)
        rw[hlay];exact (hro.append hnew).mono (Ren.le_add _ hno)⟩
      refine⟨.slice (some ⟨cb,co,none⟩) (len + n) ccap,w',?_,_,.slc K.next 0 size (len + n) (len + n) ⟨cb,co,C.size⟩ co ccap _ (by simp[Ren.add]) (.inl rfl) (Nat.le_refl _) hfit (.inr ?_) (.inl rfl) ?_,hR,?_⟩
      ·exact hfits _ _ _ _ hfit (by show (storeCells ((⟨cb,co,none⟩:Addr).add (len * size)) new').run P w=_;rw[zbs6];exact r1)
      ·show co + ccap * size≤C.size
       have:∃ b x M,H.get b=some x∧ρ b=some M∧M.blk=cb:=halive
       generalize hs3:(Value.slice (some ⟨cb,co,none⟩) len ccap)=s3 at hs
       cases hs with
       | snil=>cases hs3
       | slc b o u2 len cap L co2 ccap2 ca2 hL ho hl hc hss hca hmx =>
        cases hs3
        have hca':(⟨cb,co,none⟩:Addr)=⟨L.blk,co2,none⟩:=hca.resolve_right (fun hq=>absurd hq (Nat.ne_of_gt (Nat.lt_of_lt_of_le (Nat.pos_of_ne_zero hn0) (Nat.le_trans (Nat.le_add_left _ _) hfit))))
        cases hca'
        simp only[zsp] at hK
        split at hK
        ·rename_i cs hb2
         split at hK
         ·rename_i hu2;subst hu2
          obtain⟨C2,el2,f2,c1,c2,_⟩:=h.cells hb2 hL
          rw[hcb] at c1;cases c1
          rcases hss with q | q
          ·omega
          ·omega
         ·cases hK
        ·cases hK
      ·generalize hs3:(Value.slice (some ⟨cb,co,none⟩) len ccap)=s3 at hs
       cases hs with
       | snil=>cases hs3
       | slc b o u2 len cap L co2 ccap2 ca2 hL ho hl hc hss hca hmx =>
        cases hs3
        simp only[zsp] at hK
        split at hK
        ·split at hK
         ·rename_i hu2;subst hu2
          exact hmx
         ·cases hK
        ·cases hK
      ·refine⟨Ren.le_add _ hno,fun b hb=>by unfold Ren.add;rw[if_neg (by omega)],by rw[Heap.next_push];omega,⟨by omega,fun c hc hn=>r6 c fun ec=>?_⟩,fun b y M hb hM=>?_⟩
       ·obtain⟨b1,x1,M1,q1,q2,q3⟩:=halive
        exact hn b1 x1 M1 q1 q2 (q3.trans ec.symm)
       ·rw[Heap.get_push] at hb
        unfold Ren.add at hM
        split at hb
        ·rename_i e1;rw[if_pos e1] at hM;cases hM
         obtain⟨b1,x1,M1,q1,q2,q3⟩:=halive
         exact .inr ⟨b1,x1,M1,q1,q2,q3⟩
        ·rename_i e1;rw[if_neg e1] at hM
         exact hEK.old b y M hb hM
     ·-- a new array
      have hbig:(len + n) * bytes≤140737488355328:=by omega
      obtain⟨ncap,q,⟨hcap,hcmx⟩,hrun⟩:=hgrows _ _ _ _ hfo hfit hbig hc2
      let C:Array V:=old'.toArray ++ (new'.toArray ++ Builtin.zeroCells z.cells (ncap - (len + n)))
      have hCl:C.toList=(old' ++ new') ++ (Builtin.zeroCells z.cells (ncap - (len + n))).toList:=by simp[C]
      have hCs:C.size=ncap * size:=by
       have:ncap * size=(len + n) * size + (ncap - (len + n)) * size:=by rw[← Nat.add_mul];congr 1;omega
       simp only[C,Array.size_append,zbhy,hzs,List.size_toArray,holdl,hnl']
       omega
      have hlen2:(old ++ new).length=(old' ++ new').length:=by simp[hro.length,hnew.length]
      have hle3:(len + n) * size≤ncap * size:=Nat.mul_le_mul_right _ hcap
      obtain⟨ρ',g1,g2,g3⟩:=zbpu (hRK.drew q) (old ++ new) C e (0,0) (by simp) (by rw[hlen2,hCs];simp;omega)
       (by rw[hlen2,hCl,List.take_append_of_le_length (Nat.le_refl _),List.take_of_length_le (Nat.le_refl _)];exact hro.append hnew)
      exact⟨_,_,hrun,ρ',.slc K.next 0 size (len + n) (len + n) _ 0 ncap _ g3 (.inl rfl) (Nat.le_refl _) hcap (.inr (by show 0 + ncap * size≤C.size;omega)) (.inl rfl) (.inr hcmx),g1,hEK.trans g2.drawn⟩
    ·cases hm
   ·cases hm
 ·cases hm
end Go.AM
