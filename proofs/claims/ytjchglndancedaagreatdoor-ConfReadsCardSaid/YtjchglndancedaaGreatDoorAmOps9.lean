import Derived.Test.YtjchglndancedaaGreatDoorAmOps4
import Derived.Laws.Append
set_option linter.all false
/- Operations that make and write memory: words. -/
namespace Go.AM
open Go.RowKit (Below)
variable {P:Program} {N:Nat} {w₀:World} {ρ:Ren} {H:Heap} {w:World}
structure Ext (ρ:Ren) (H:Heap) (w:World) (ρ':Ren) (H':Heap) (w':World):Prop where
 le:ρ.le ρ'
 same:∀ b,b < H.next→ρ' b=ρ b
 next:H.next≤H'.next
 apart:zbyb ρ H w w'
 old:∀ b x L,H'.get b=some x→ρ' b=some L→w.heap.size≤L.blk∨∃ b₀ x₀ L₀,H.get b₀=some x₀∧ρ b₀=some L₀∧L₀.blk=L.blk
theorem Ext.refl (ρ:Ren) (H:Heap) (w:World):Ext ρ H w ρ H w :=
 ⟨.refl _,fun _ _=>rfl,Nat.le_refl _,.refl _ _ _,fun b x L h g => .inr ⟨b,x,L,h,g,rfl⟩⟩
theorem Ext.trans {ρ₁ ρ₂ ρ₃:Ren} {H₁ H₂ H₃:Heap} {w₁ w₂ w₃:World} (h:Ext ρ₁ H₁ w₁ ρ₂ H₂ w₂) (g:Ext ρ₂ H₂ w₂ ρ₃ H₃ w₃):Ext ρ₁ H₁ w₁ ρ₃ H₃ w₃:=by
 refine⟨h.le.trans g.le,fun b hb=>(g.same b (Nat.lt_of_lt_of_le hb h.next)).trans (h.same b hb),Nat.le_trans h.next g.next,⟨Nat.le_trans h.apart.1 g.apart.1,fun c hc hn=>?_⟩,fun b x L hb hL=>?_⟩
 ·have h1:=h.apart.2 c hc hn
  have h2:w₃.heap[c]? = w₂.heap[c]? := g.apart.2 c (Nat.lt_of_lt_of_le hc h.apart.1) fun b x L hb hL he=>by
   rcases h.old b x L hb hL with q | ⟨b₀,x₀,L₀,q1,q2,q3⟩
   ·omega
   ·exact hn b₀ x₀ L₀ q1 q2 (q3.trans he)
  exact h2.trans h1
 ·rcases g.old b x L hb hL with q | ⟨b₀,x₀,L₀,q1,q2,q3⟩
  ·exact .inl (Nat.le_trans h.apart.1 q)
  ·rcases h.old b₀ x₀ L₀ q1 q2 with q | ⟨b₁,x₁,L₁,r1,r2,r3⟩
   ·exact .inl (by omega)
   ·exact .inr ⟨b₁,x₁,L₁,r1,r2,r3.trans q3⟩
theorem zbgd (h:Rel N w₀ ρ H w) (x:Blk) (o:Obj) (L:Loc) (hL:L.blk=w.heap.size) (hx:BRel N (ρ.add H.next L) (w.alloc o) L x) :
  Rel N w₀ (ρ.add H.next L) (H.push (some x)) (w.alloc o)∧Ext ρ H w (ρ.add H.next L) (H.push (some x)) (w.alloc o)∧ρ.add H.next L H.next=some L:=by
 have hno:ρ H.next=none:=h.dom _ (Nat.le_refl _)
 have hold:∀ k,k < w.heap.size→(w.alloc o).heap[k]? = w.heap[k]? := fun k hk=>by
  show (w.heap.push o)[k]? = _
  rw[Array.getElem?_push,if_neg (by omega)]
 refine⟨h.alloc x o L hL hx,⟨Ren.le_add L hno,fun b hb=>?_,?_,⟨by simp,fun c hc _=>hold c hc⟩,fun b y K hb hK=>?_⟩,by simp[Ren.add]⟩
 ·unfold Ren.add;rw[if_neg (by omega)]
 ·rw[Heap.next_push];omega
 ·rw[Heap.get_push] at hb
  unfold Ren.add at hK
  split at hb
  ·rename_i e;rw[if_pos e] at hK;cases hK;left;omega
  ·rename_i e;rw[if_neg e] at hK;exact .inr ⟨b,y,K,hb,hK,rfl⟩
theorem zbql (h:Rel N w₀ ρ H w) (cs:List V) (C:Array V) (e:TypeId) (f:Nat × Nat) (hf:∀ i,i < C.size→¬ (f.1≤i∧i < f.2)) (hl:cs.length≤C.size) (hc:LRel ρ cs (C.toList.take cs.length)) :
  ∃ ρ',Rel N w₀ ρ' (H.push (some (.cells true cs))) (w.alloc (.cells C e f))∧Ext ρ H w ρ' (H.push (some (.cells true cs))) (w.alloc (.cells C e f))∧ρ' H.next=some ⟨w.heap.size,0,C.size⟩:=by
 have hno:ρ H.next=none:=h.dom _ (Nat.le_refl _)
 refine⟨_,zbgd h (.cells true cs) (.cells C e f) ⟨w.heap.size,0,C.size⟩ rfl ⟨C,e,f,?_,rfl,⟨fun _=>⟨h.big,hf⟩,fun q=>by cases q⟩,by simpa using hl,?_⟩⟩
 ·show (w.heap.push _)[w.heap.size]? = _
  simp
 ·simpa using hc.mono (Ren.le_add _ hno)
theorem zbvd (h:Rel N w₀ ρ H w) {b:Nat} {x y:Blk} {L:Loc} (hb:H.get b=some x) (hL:ρ b=some L) (w':World) (hold:∀ k,k≠L.blk→w'.heap[k]? = w.heap[k]?) (hsz:w'.heap.size=w.heap.size) :
  Ext ρ H w ρ (H.set b (some y)) w':=by
 refine⟨.refl _,fun _ _=>rfl,by rw[Heap.next_set];exact Nat.le_refl _,⟨by omega,fun c hc hn=>hold c fun e=>hn b x L hb hL e.symm⟩,fun c z K hc hK=>?_⟩
 rw[Heap.get_set H b _ c (Heap.get_lt hb)] at hc
 split at hc
 ·rename_i e;subst e;rw[hL] at hK;cases hK;exact .inr ⟨c,x,L,hb,hL,rfl⟩
 ·exact .inr ⟨c,z,K,hc,hK,rfl⟩
theorem zbqm {b:Nat} {x:Blk} (hb:H.get b=some x):Ext ρ H w ρ (H.set b none) w:=by
 refine⟨.refl _,fun _ _=>rfl,by rw[Heap.next_set];exact Nat.le_refl _,.refl _ _ _,fun c z K hc hK=>?_⟩
 rw[Heap.get_set H b _ c (Heap.get_lt hb)] at hc
 split at hc
 ·cases hc
 ·exact .inr ⟨c,z,K,hc,hK,rfl⟩
theorem z2s (l m:List V) (o j:Nat) (h:o + m.length≤l.length):(splice l o m)[j]? = if j < o then l[j]? else if j < o + m.length then m[j - o]? else l[j]? := by
 unfold splice
 have h1:(l.take o).length=o:=by simp;omega
 by_cases hj:j < o
 ·rw[if_pos hj,List.getElem?_append_left (by omega)];simp[List.getElem?_take,hj]
 ·rw[if_neg hj,List.getElem?_append_right (by omega),h1]
  by_cases hk:j < o + m.length
  ·rw[if_pos hk,List.getElem?_append_left (by omega)]
  ·rw[if_neg hk,List.getElem?_append_right (by omega),List.getElem?_drop]
   congr 1;omega
theorem z1h (C vs:List V) (off o n:Nat) (h1:off + n≤C.length) (h2:o + vs.length≤n):((splice C (off + o) vs).drop off).take n=splice ((C.drop off).take n) o vs:=by
 apply List.ext_getElem?
 intro j
 rw[z2s _ _ _ _ (by simp;omega),List.getElem?_take,List.getElem?_drop,z2s _ _ _ _ (by omega)]
 simp only[List.getElem?_take,List.getElem?_drop]
 by_cases hj:j < n
 ·rw[if_pos hj]
  by_cases h3:j < o
  ·rw[if_pos (by omega),if_pos h3,if_pos hj]
  ·rw[if_neg (by omega),if_neg h3]
   by_cases h4:j < o + vs.length
   ·rw[if_pos (by omega),if_pos h4];congr 1;omega
   ·rw[if_neg (by omega),if_neg h4,if_pos hj]
 ·rw[if_neg hj,if_neg (by omega),if_neg (by omega),if_neg hj]
theorem zbk2 (l:List V) (o:Nat) (x:V) (h:o < l.length):l.set o x=splice l o [x]:=by
 apply List.ext_getElem?
 intro j
 rw[z2s _ _ _ _ (by simp;omega),List.getElem?_set]
 by_cases hj:j < o
 ·rw[if_neg (by omega),if_pos hj]
 ·by_cases h2:o=j
  ·subst h2;simp[h]
  ·rw[if_neg h2,if_neg hj,if_neg (by simp;omega)]
theorem zbts {v:V} (h:v.isOne=true):v.oneCell'=true:=by cases v <;> simp_all [Value.isOne,Value.oneCell']
theorem zwz (b off:Nat) (e:TypeId) (f:Nat × Nat):∀ (vs:List V) (i:Nat) (C:Array V) (w:World),w.heap[b]? = some (.cells C e f)→off + i + vs.length≤C.size →
  (∀ j,j < C.size→¬ (f.1≤j∧j < f.2))→vs.all Value.isOne=true →
  ∃ w',(storeCells ⟨b,off,none⟩ vs i).run P w = .ok () w'∧w'.heap.size=w.heap.size∧w'.os=w.os∧w'.tape=w.tape∧w'.output=w.output∧(∀ k,k≠b→w'.heap[k]? = w.heap[k]?) ∧
   ∃ C',w'.heap[b]? = some (.cells C' e f)∧C'.toList=splice C.toList (off + i) vs∧C'.size=C.size
 | [],i,C,w,hb,_,_,_=>⟨w,rfl,rfl,rfl,rfl,rfl,fun _ _=>rfl,C,hb,by simp[splice],rfl⟩
 | v :: vs,i,C,w,hb,hl,hf,h1=>by
  simp only[List.all_cons,Bool.and_eq_true] at h1
  simp only[List.length_cons] at hl
  have hlt:off + i < C.size:=by omega
  have hc:w.cell? ⟨b,off + i,none⟩=some C[off + i]:=by rw[zbih hb];simp[hlt]
  have hz:w.frozen? ⟨b,off + i,none⟩=false:=by
   simp only[World.frozen?,hb]
   have:=hf (off + i) hlt
   simp only[Bool.and_eq_false_iff,decide_eq_false_iff_not]
   omega
  have hst:(store ⟨b,off + i,none⟩ v).run P w = .ok () (w.setCell ⟨b,off + i,none⟩ v):=by
   rw[run_store P w _ v _ (zbts h1.1)]
   simp[hc,hz]
  have hb':(w.setCell ⟨b,off + i,none⟩ v).heap[b]? = some (.cells (C.setIfInBounds (off + i) v) e f):=by
   simp only[World.setCell,Array.getElem?_modify,if_true,hb]
   rfl
  obtain⟨w',r1,r2,r3,r4,r5,r6,C',r7,r8,r9⟩:=zwz b off e f vs (i + 1) (C.setIfInBounds (off + i) v) _ hb' (by simp;omega) (by simpa using hf) h1.2
  refine⟨w',?_,by rw[r2];simp,r3,r4,r5,fun k hk=>(r6 k hk).trans ?_,C',r7,?_,by simpa using r9⟩
  ·simp only[storeCells,Sem.run_bind,zbto,hst,Result.andThen_ok,r1]
  ·simp only[World.setCell,Array.getElem?_modify]
   rw[if_neg (by simpa using fun e=>hk e.symm)]
  ·rw[r8,Array.toList_setIfInBounds]
   have:=zbiu C.toList (off + i) v vs (by simpa using hlt)
   unfold splice
   rw[← Nat.add_assoc]
   exact this
theorem zbck (h:Rel N w₀ ρ H w) {b o:Nat} {cs vs vs':List V} (hb:H.get b=some (.cells true cs)) {L:Loc} (hL:ρ b=some L) (hle:o + vs.length≤cs.length) (hv:LRel ρ vs vs') (h1:vs'.all Value.isOne=true) :
  ∃ w',(storeCells ⟨L.blk,L.off + o,none⟩ vs').run P w = .ok () w'∧Rel N w₀ ρ (H.set b (some (.cells true (splice cs o vs)))) w'∧Ext ρ H w ρ (H.set b (some (.cells true (splice cs o vs)))) w':=by
 obtain⟨C,e,f,c1,c2,c3,c4,c5⟩:=h.cells hb hL
 have hlen:=hv.length
 obtain⟨w',r1,r2,r3,r4,r5,r6,C',r7,r8,r9⟩:=zwz (P:=P) L.blk (L.off + o) e f vs' 0 C w c1 (by omega) (c3 rfl).2 h1
 refine⟨w',r1,h.put hb hL (c3 rfl).1 w' r3 r4 r5 r2 r6 ⟨C',e,f,r7,by omega,⟨fun _=>⟨(c3 rfl).1,by rw[r9];exact (c3 rfl).2⟩,fun q=>by cases q⟩,by rw[zzz _ _ _ hle];omega,?_⟩,zbvd h hb hL w' r6 r2⟩
 rw[r8,zzz _ _ _ hle,Nat.add_zero,z1h _ _ _ _ _ (by simp;omega) (by omega)]
 exact c5.splice hv o
theorem z2t:∀ {l l':List V},LRel ρ l l'→l.all Value.isOne=true→l'.all Value.isOne=true
 | _,_,.nil,_=>rfl
 | _,_,.cons h g,ha=>by
  simp only[List.all_cons,Bool.and_eq_true] at ha ⊢
  exact⟨h.isOne ha.1,z2t g ha.2⟩
theorem zbwf (h:Rel N w₀ ρ H w) {p p' v v' r:V} {H':Heap} {t:TypeId} (ht:tk P t=some .one) (hs:st1 p v H=some (r,H')) (hp:VRel ρ p p') (hv:VRel ρ v v') :
  r=undef∧∃ w',(Instr.storeAt t p' v').run P w = .ok () w'∧Rel N w₀ ρ H' w'∧Ext ρ H w ρ H' w':=by
 unfold st1 at hs
 split at hs
 ·rename_i b o
  split at hs
  ·rename_i cs hb
   split at hs
   ·rename_i hc
    cases hs
    simp only[Bool.and_eq_true,decide_eq_true_eq] at hc
    obtain⟨L,hL,rfl⟩:=hp.ptr_inv
    have hv1:=hv.isOne hc.1
    obtain⟨w',g1,g2,g3⟩:=zbck (P:=P) (o:=o) h hb hL (vs:=[v]) (vs':=[v']) (by simp;omega) (.cons hv .nil) (by simp[hv1])
    rw[← zbk2 cs o v hc.2] at g2 g3
    refine⟨rfl,w',?_,g2,g3⟩
    simp[Instr.storeAt,Instr.sureAddr,storeVar,(zbn9 ht).2 w,z9b hv1,g1]
   ·cases hs
  ·cases hs
 ·cases hs
theorem zbwg (h:Rel N w₀ ρ H w) {p p' v v' r:V} {H':Heap} {t:TypeId} {n:Nat} (ht:tk P t=some (.agg n)) (hs:stn n p v H=some (r,H')) (hp:VRel ρ p p') (hv:VRel ρ v v') :
  r=undef∧∃ w',(Instr.storeAt t p' v').run P w = .ok () w'∧Rel N w₀ ρ H' w'∧Ext ρ H w ρ H' w':=by
 unfold stn at hs
 split at hs
 ·rename_i b o vs
  split at hs
  ·rename_i cs hb
   split at hs
   ·rename_i hc
    cases hs
    simp only[Bool.and_eq_true,decide_eq_true_eq,beq_iff_eq] at hc
    obtain⟨⟨hc1,hc2⟩,hc3⟩:=hc
    obtain⟨L,hL,rfl⟩:=hp.ptr_inv
    obtain⟨A,rfl,hA⟩:=hv.agg_inv
    obtain⟨w',g1,g2,g3⟩:=zbck (P:=P) (o:=o) h hb hL (vs:=vs.toList) (vs':=A.toList) (by omega) hA (z2t hA hc1)
    have hsz:A.size=n:=by have:=hA.length;simp at *;omega
    refine⟨rfl,w',?_,g2,g3⟩
    simp[Instr.storeAt,Instr.sureAddr,storeVar,(zbgc ht).2 w,Value.cells,hsz,g1]
   ·cases hs
  ·cases hs
 ·cases hs
end Go.AM

/- Operations that make and write memory. -/
namespace Go.AM
open Go.RowKit (Below)
variable {P:Program} {N:Nat} {w₀:World} {ρ:Ren} {H:Heap} {w:World}
def zz1 (N:Nat) (w₀:World) (ρ:Ren) (H:Heap) (w:World) (r:V) (H':Heap) (r':V) (w':World):Prop :=
 ∃ ρ',VRel ρ' r r'∧Rel N w₀ ρ' H' w'∧Ext ρ H w ρ' H' w'
def MkOK (N:Nat) (ρ:Ren) (w:World) (v:V) (x:Blk) (r':V) (w':World):Prop :=
 ∃ o nd sz,w'=({ w with drawn:=nd }:World).alloc o∧(∀ ρ₂:Ren,ρ.le ρ₂→BRel N ρ₂ w' ⟨w.heap.size,0,sz⟩ x)∧∀ (ρ₂:Ren) id,ρ₂ id=some ⟨w.heap.size,0,sz⟩→VRel ρ₂ (zwu id v) r'
theorem zbd2 (hN:N≤w.heap.size) (nd:Nat) (cs:List V) (C:Array V) (e:TypeId) (f:Nat × Nat) (hf:∀ i,i < C.size→¬ (f.1≤i∧i < f.2)) (hl:cs.length≤C.size) (hc:LRel ρ cs (C.toList.take cs.length)) (v r':V)
  (hv:∀ (ρ₂:Ren) id,ρ₂ id=some ⟨w.heap.size,0,C.size⟩→VRel ρ₂ (zwu id v) r'):MkOK N ρ w v (.cells true cs) r' (({ w with drawn:=nd }:World).alloc (.cells C e f)):=by
 refine⟨_,nd,C.size,rfl,fun ρ₂ hle=>⟨C,e,f,?_,rfl,⟨fun _=>⟨hN,hf⟩,fun q=>by cases q⟩,by simpa using hl,by simpa using hc.mono hle⟩,hv⟩
 show (w.heap.push _)[w.heap.size]? = _
 simp
theorem zbd3 (h:Rel N w₀ ρ H w) {v:V} {x:Blk} {r':V} {w':World} (hm:MkOK N ρ w v x r' w'):zz1 N w₀ ρ H w (zwu H.next v) (H.push (some x)) r' w':=by
 obtain⟨o,nd,sz,rfl,h1,h2⟩:=hm
 have hno:ρ H.next=none:=h.dom _ (Nat.le_refl _)
 obtain⟨g1,g2,g3⟩:=zbgd (h.drew nd) x o ⟨w.heap.size,0,sz⟩ rfl (h1 _ (Ren.le_add _ hno))
 exact⟨_,h2 _ _ g3,g1,⟨g2.le,g2.same,g2.next,⟨g2.apart.1,g2.apart.2⟩,g2.old⟩⟩
theorem zbm1 (hN:N≤w.heap.size) (t:TypeId) {cs:List V} {v':V} (hc:LRel ρ cs v'.cells.toList) :
  ∃ r' w',(do pure (Value.pointer (some (← newVar t v'))):Sem Value).run P w = .ok r' w'∧MkOK N ρ w (ptr 0 0) (.cells true cs) r' w':=by
 have hl:=hc.length
 refine⟨.pointer (some ⟨w.heap.size,0,none⟩),_,?_,zbd2 hN w.drawn cs v'.cells t (0,0) (by simp) (by simp at hl;omega) (by rw[List.take_of_length_le (by omega)];exact hc) (ptr 0 0) _ fun ρ₂ id hid=>?_⟩
 ·simp[newVar,newRow]
 ·have:=VRel.ptr id 0 _ hid;simpa[zwu] using this
theorem zbwh {cs:List V} {r:V} {H':Heap} (hn:newc cs H=some (r,H')):newc cs Heap.none0=some (ptr 0 0,Heap.one (.cells true cs))∧r=ptr H.next 0∧H'=H.push (some (.cells true cs)):=by
 unfold newc at hn ⊢
 split at hn
 ·rename_i hf;cases hn;exact⟨by rw[if_pos hf];rfl,rfl,rfl⟩
 ·cases hn
theorem zbve (hN:N≤w.heap.size) {t:TypeId} {z v:V} {K:Heap} (hz:zgn P t=some z) (hn:newc z.cells.toList Heap.none0=some (v,K)) :
  ∃ x,K=Heap.one x∧∃ r' w',(Instr.alloc t true (.tuple #[])).run P w = .ok r' w'∧MkOK N ρ w v x r' w':=by
 unfold newc at hn
 split at hn
 ·rename_i hf
  cases hn
  obtain⟨r',w',g1,g2⟩:=zbm1 (P:=P) (N:=N) (ρ:=ρ) hN t (zbci hf)
  refine⟨_,rfl,r',w',?_,g2⟩
  simp only[Instr.alloc,Sem.run_bind,zjk hz w,Result.andThen_ok]
  simpa using g1
 ·cases hn
theorem zbwi {v r:V} {H':Heap} (hn:zdf v H=some (r,H')):∃ x,zdf v Heap.none0=some (ptr 0 0,Heap.one x)∧r=ptr H.next 0∧H'=H.push (some x):=by
 unfold zdf at hn ⊢
 split at hn
 ·rename_i hf;cases hn;exact⟨_,by rw[if_pos hf];rfl,rfl,rfl⟩
 ·cases hn
theorem zbvf (hN:N≤w.heap.size) {t:TypeId} {v v' r:V} {K:Heap} (hv:VRel ρ v v') (hn:zdf v Heap.none0=some (r,K)) :
  ∃ x,K=Heap.one x∧∃ r' w',(Instr.box t v').run P w = .ok r' w'∧MkOK N ρ w r x r' w':=by
 unfold zdf at hn
 split at hn
 ·rename_i hf
  cases hn
  exact⟨_,rfl,zbm1 (P:=P) hN t (hv.cells hf)⟩
 ·cases hn
theorem zbvg {z:List V} (hz:0 < z.length):∀ (n i:Nat),i < n * z.length→(rep n z)[i]? = z[i % z.length]?
 | 0,i,h=>by simp at h
 | n + 1,i,h=>by
  simp only[rep]
  by_cases hi:i < z.length
  ·rw[List.getElem?_append_left hi,Nat.mod_eq_of_lt hi]
  ·rw[List.getElem?_append_right (by omega),zbvg hz n (i - z.length) (by rw[Nat.add_mul] at h;omega)]
   congr 1
   rw[← Nat.mod_eq_sub_mod (by omega)]
theorem zw0 (z:List V):∀ n,(rep n z).length=n * z.length
 | 0=>by simp[rep]
 | n + 1=>by simp[rep,zw0 z n,Nat.add_mul];omega
theorem zbob {z:List V} (h:LRel ρ z z):∀ n,LRel ρ (rep n z) (rep n z)
 | 0 => .nil
 | n + 1=>h.append (zbob h n)
theorem zbi4 (z:Array V) (n:Nat) (hz:0 < z.size):((Array.range (n * z.size)).map fun i=>z[i % z.size]!).toList=rep n z.toList:=by
 apply List.ext_getElem?
 intro i
 by_cases hi:i < n * z.size
 ·have hlt:i % z.size < z.size:=Nat.mod_lt _ hz
  rw[zbvg (by simpa using hz) n i (by simpa using hi)]
  simp[hi,hlt,getElem!_pos]
 ·rw[List.getElem?_eq_none (by simp;omega),List.getElem?_eq_none (by rw[zw0];simp;omega)]
theorem zbge {l:List V} (h:l.all zgb=true):LRel ρ l l:=by
 induction l with
 | nil=>exact .nil
 | cons x xs ih=>simp only[List.all_cons,Bool.and_eq_true] at h;exact .cons (zpx h.1) (ih h.2)
theorem zbcl {α:Type} (f:Nat→α):(Array.range 0).map f=#[]:=Array.eq_empty_of_size_eq_zero (by simp)
theorem Ext.drawn {ρ':Ren} {H':Heap} {w':World} {n:Nat} (g:Ext ρ H { w with drawn:=n } ρ' H' w'):Ext ρ H w ρ' H' w':=⟨g.le,g.same,g.next,⟨g.apart.1,g.apart.2⟩,g.old⟩
theorem zbqn {n:Int} (h0:0≤n) (h1:n≤9223372036854775807):IntKind.i64.wrap n=n:=IntWalk.i64_in n ⟨by omega,h1⟩
theorem zbqo (hN:N≤w.heap.size) {t e:TypeId} {size bytes:Nat} {z n c n' c' r:V} {K:Heap} (hu:P.underlying t=some (.slice e)) (hs:zfz P e=some size) (hb:zod P e=some bytes) (hz:zgn P e=some z)
  (hsz:z.cells.size=size) (h0:0 < size) (hn:VRel ρ n n') (hc:VRel ρ c c') (hm:zu0 size bytes z.cells.toList n c Heap.none0=some (r,K)) :
  ∃ x,K=Heap.one x∧∃ r' w',(Instr.makeSlice t n' c').run P w = .ok r' w'∧MkOK N ρ w r x r' w':=by
 unfold zu0 at hm
 split at hm
 ·rename_i k x k' y
  split at hm
  ·rename_i hcond
   obtain⟨hfl,hx0,hxy,hyb,hyb2⟩:=hcond
   cases hm
   obtain⟨i,hi,hib⟩:=zwy hb w
   have e1:=hn.int_inv;have e2:=hc.int_inv
   subst e1;subst e2
   have hwx:IntKind.i64.wrap x=x:=zbqn hx0 (by omega)
   have hwy:IntKind.i64.wrap y=y:=zbqn (by omega) (by omega)
   have hC:((Array.range (y.toNat * size)).map fun i=>z.cells[i % z.cells.size]!).toList=rep y.toNat z.cells.toList:=by rw[← hsz];exact zbi4 z.cells y.toNat (by omega)
   have hlen:((Array.range (y.toNat * size)).map fun i=>z.cells[i % z.cells.size]!).size=(rep y.toNat z.cells.toList).length:=by rw[← hC];simp
   refine⟨_,rfl,.slice (some ⟨w.heap.size,0,none⟩) x.toNat y.toNat,_,?_,zbd2 hN w.drawn (rep y.toNat z.cells.toList) ((Array.range (y.toNat * size)).map fun i=>z.cells[i % z.cells.size]!) e (0,0) (by simp) (by omega)
    (by rw[hC,List.take_of_length_le (Nat.le_refl _)];exact zbob (zbge hfl) _) _ _ fun ρ₂ id hid => .slc id 0 size x.toNat y.toNat _ 0 y.toNat _ hid (.inl rfl) (by omega) (Nat.le_refl _) (.inr ?_) (.inl rfl) (.inr (by omega))⟩
   ·have hb1:¬ (y < 0):=by omega
    have hb2:¬ ((bytes:Int) * y > 2 ^ 48):=by have:(2:Int) ^ 48=281474976710656:=rfl;omega
    have hb3:¬ (x < 0):=by omega
    have hb4:¬ (x > y):=by omega
    simp only[Instr.makeSlice,Sem.run_bind,run_underlying hu,Result.andThen_ok,asInt,asIntOf,Sem.run_pure,hi,hwx,hwy,hib]
    simp only[hb1,hb2,hb3,hb4,decide_false,Bool.or_self,Bool.false_eq_true,or_self,if_false,Sem.run_bind,run_askRoom,Result.andThen_ok,zdt hs w,Bool.or_false]
    by_cases q:y.toNat * size=0
    ·simp only[q,if_true,Sem.run_pure,Result.andThen_ok,Sem.run_bind,newRow,run_newObj,zbcl]
     rfl
    ·simp[q,newRow,zjk hz w]
   ·show 0 + y.toNat * size≤_
    rw[hlen,zw0];simp[hsz]
  ·cases hm
 ·cases hm
theorem zbvh (hN:N≤w.heap.size) {t e:TypeId} {size len:Nat} {z r:V} {K:Heap} {parts:Array (Nat × Operand)} {ev c:Operand→V} (hr:∀ z,VRel ρ (ev z) (c z)) (hu:P.underlying t=some (.slice e)) (hs:zfz P e=some size) (hz:zgn P e=some z)
  (hlen:len * size≤16777216) (hsz:z.cells.size=size) (h0:0 < size) (hm:zcz size len (rep len z.cells.toList) (znj size ev parts.toList) Heap.none0=some (r,K)) :
  ∃ x,K=Heap.one x∧∃ r' w',(Instr.buildSlice t len (parts.map fun p=>(p.1,c p.2))).run P w = .ok r' w'∧MkOK N ρ w r x r' w':=by
 unfold zcz at hm
 split at hm
 ·rename_i hfl
  split at hm
  ·rename_i cs hcs
   cases hm
   have hC:((Array.range (len * size)).map fun i=>z.cells[i % z.cells.size]!).toList=rep len z.cells.toList:=by rw[← hsz];exact zbi4 z.cells len (by omega)
   obtain⟨D,hD,hrel⟩:=zbch _ (z5q (size:=size) hr parts.toList) _ ((Array.range (len * size)).map fun i=>z.cells[i % z.cells.size]!) cs (by rw[hC];exact zbge hfl) hcs
   have hDl:cs.length=D.size:=by have:=hrel.length;simpa using this
   have hfa:∀ {qs:List (Nat × Nat × V)} {l m:List V},zbn l qs=some m→m.length=l.length:=by
    intro qs
    induction qs with
    | nil=>intro l m hq;simp only[zbn] at hq;cases hq;rfl
    | cons q qs ih =>
     intro l m hq
     obtain⟨o,s,v⟩:=q
     simp only[zbn] at hq
     split at hq
     ·rename_i hc
      simp only[Bool.and_eq_true,beq_iff_eq,decide_eq_true_eq] at hc
      rw[ih hq,zzz]
      have:=hc.1.2
      simp at *;omega
     ·cases hq
   have hcl:cs.length=len * size:=by rw[hfa hcs,zw0];simp[hsz]
   refine⟨_,rfl,.slice (some ⟨w.heap.size,0,none⟩) len len,_,?_,zbd2 hN w.drawn cs D e (0,0) (by simp) (by omega) (by rw[List.take_of_length_le (by simp;omega)];exact hrel) _ _
    fun ρ₂ id hid => .slc id 0 size len len _ 0 len _ hid (.inl rfl) (Nat.le_refl _) (Nat.le_refl _) (.inr ?_) (.inl rfl) (.inr (by have:=Nat.le_mul_of_pos_right len h0;omega))⟩
   ·have hD':Instr.fill (fun i=>some (i * size,size)) ((Array.range (len * size)).map fun i=>z.cells[i % z.cells.size]!) (parts.map fun p=>(p.1,c p.2)).toList=some D:=by simpa using hD
    simp only[Instr.buildSlice,Sem.run_bind,run_underlying hu,Result.andThen_ok,zdt hs w]
    rw[if_neg (by omega)]
    by_cases q:len * size=0
    ·simp only[q,if_true,Sem.run_pure,Result.andThen_ok]
     rw[q,zbcl] at hD'
     simp only[zbcl,Sem.run_bind,Sem.run_pure,Result.andThen_ok]
     rw[hD']
     simp[newRow]
    ·simp only[q,if_false,Sem.run_bind,zjk hz w,Result.andThen_ok,Sem.run_pure]
     rw[hD']
     simp[newRow]
   ·show 0 + len * size≤D.size
    omega
  ·cases hm
 ·cases hm
theorem zz2 (s:ByteArray):(zqh s).length=s.size:=by simp[zqh]
theorem zbcm (s:ByteArray):LRel ρ (zqh s) (zqh s):=by
 unfold zqh
 induction s.data.toList with
 | nil=>exact .nil
 | cons x xs ih=>exact .cons (.int _ _) ih
theorem zbqp (a:Array Obj) (x:Obj) (f:Obj→Obj):(a.push x).modify a.size f=a.push (f x):=by
 apply Array.ext
 ·simp
 ·intro i h1 h2
  simp only[Array.size_modify,Array.size_push] at h1
  simp only[Array.getElem_modify,Array.getElem_push]
  by_cases hi:i < a.size
  ·rw[if_neg (by omega)];simp[hi]
  ·rw[if_pos (by omega)];simp[hi]
theorem zbyi (hN:N≤w.heap.size) {e:TypeId} {a a' r:V} {K:Heap} (ha:VRel ρ a a') (hm:s2b a Heap.none0=some (r,K)) :
  ∃ x,K=Heap.one x∧∃ s r' w',a' = .string s∧(Conv.stringToBytes e s).run P w = .ok r' w'∧MkOK N ρ w r x r' w':=by
 unfold s2b at hm
 split at hm
 ·rename_i s
  split at hm
  rotate_left
  ·cases hm
  rename_i hsz
  cases hm
  have hq:∃ cap n,(choose (.appendCap s.size 0 e)).run P w = .ok cap { w with drawn:=n } ∧ s.size≤cap∧cap≤9223372036854775807:=by
   simp only[run_choose,Question.forced,Bool.false_eq_true,if_false,Question.cut]
   exact⟨_,_,rfl,Nat.le_add_right _ _,by have:=Nat.mod_lt (w.tape w.drawn (.appendCap s.size 0 e)) (show 0 < 2 ^ 63 - s.size by omega);omega⟩
  obtain⟨cap,nd,hch,hcap,hcmx⟩:=hq
  let C:Array V:=s.data.map (fun b=>Value.int .u8 b.toNat) ++ Array.replicate (cap - s.size) (.int .u8 0)
  have hCs:C.size=cap:=by simp only[C,Array.size_append,Array.size_map,Array.size_replicate];have:s.data.size=s.size:=rfl;omega
  have hCl:C.toList=zqh s ++ List.replicate (cap - s.size) (.int .u8 0):=by simp[C,zqh]
  refine⟨_,rfl,s,.slice (some ⟨w.heap.size,0,none⟩) s.size cap,_,ha.string_inv,?_,zbd2 hN nd (zqh s) C e (cap,cap + 1) (by simp only[hCs];omega) (by rw[zz2];omega)
   (by rw[hCl,List.take_append_of_le_length (Nat.le_refl _),List.take_of_length_le (Nat.le_refl _)];exact zbcm s) _ _
   fun ρ₂ id hid => .slc id 0 1 s.size s.size _ 0 cap _ hid (.inl rfl) (Nat.le_refl _) hcap (.inr (by simp[hCs])) (.inl rfl) (.inr hcmx)⟩
  have hsh:∀ o,(({ w with drawn:=nd }:World).alloc (.cells C e o)).shape? w.heap.size=some (e,cap):=by
   intro o
   show (match (w.heap.push (Obj.cells C e o))[w.heap.size]? with | some (.cells c elem _)=>some (elem,c.size) | _=>none)=_
   simp[hCs]
  simp only[Conv.stringToBytes,Sem.run_bind,hch,Result.andThen_ok,newRow,run_newObj,Sem.run_pure,markStringish,run_shape]
  have hsh':=hsh (0,0)
  have e1:({ w with heap:=w.heap.push (Obj.cells C e (0,0)),drawn:=nd }:World).shape? w.heap.size=some (e,cap):=hsh'
  have e2:(({ w with heap:=w.heap.push (Obj.cells C e (0,0)),drawn:=nd }:World).freeze ⟨w.heap.size,cap,none⟩ 1)=({ w with drawn:=nd }:World).alloc (.cells C e (cap,cap + 1)):=by
   simp only[World.freeze,World.alloc]
   rw[if_neg (by omega)]
   rw[zbqp]
   simp
  show (Result.andThen (Sem.run P (match ({ w with heap:=w.heap.push (Obj.cells C e (0,0)),drawn:=nd }:World).shape? w.heap.size with | some (_,n)=>_ | _=>_) _) _)=_
  rw[e1]
  simp only[run_freeze,Result.andThen_ok]
  rw[e2]
 ·cases hm
theorem zbtt {size bytes:Nat} {z:List V} {n c r:V} {H':Heap} (hn:zu0 size bytes z n c H=some (r,H')):∃ v x,zu0 size bytes z n c Heap.none0=some (v,Heap.one x)∧r=zwu H.next v∧H'=H.push (some x):=by
 unfold zu0 at hn ⊢
 split at hn
 ·split at hn
  ·rename_i hf;cases hn;exact⟨_,_,by simp only[hf,and_self,if_true];rfl,rfl,rfl⟩
  ·cases hn
 ·cases hn
theorem zbwj {size len:Nat} {z:List V} {parts:List (Nat × Nat × V)} {r:V} {H':Heap} (hn:zcz size len z parts H=some (r,H')):∃ v x,zcz size len z parts Heap.none0=some (v,Heap.one x)∧r=zwu H.next v∧H'=H.push (some x):=by
 unfold zcz at hn ⊢
 split at hn
 ·rename_i hf
  rw[if_pos hf]
  split at hn
  ·rename_i cs hcs;cases hn;refine⟨slc 0 0 size len len,.cells true cs,?_,rfl,rfl⟩;first | rfl | (rw[hcs];rfl)
  ·cases hn
 ·cases hn
theorem zbyj {a r:V} {H':Heap} (hn:s2b a H=some (r,H')):∃ v x,s2b a Heap.none0=some (v,Heap.one x)∧r=zwu H.next v∧H'=H.push (some x):=by
 unfold s2b at hn ⊢
 split at hn
 ·split at hn
  ·rename_i hc
   cases hn
   simp only[if_pos hc]
   exact⟨_,_,rfl,rfl,rfl⟩
  ·cases hn
 ·cases hn
theorem zbqq (hN:N≤w.heap.size):MkOK N ρ w (.map (some 0)) (.map true []) (.map (some w.heap.size)) (w.alloc (.map #[] 0)) :=
 ⟨_,w.drawn,0,rfl,fun ρ₂ _=>⟨rfl,#[],0,by show (w.heap.push _)[w.heap.size]? = _;simp,fun _=>⟨hN,zbqc 0⟩,.nil,.nil⟩,fun ρ₂ id hid => .map id _ hid⟩
theorem zbtu (h:Rel N w₀ ρ H w) {t:TypeId} {z r:V} {H':Heap} (hz:zgn P t=some z) (hn:newc z.cells.toList H=some (r,H')) :
  ∃ r' w',(Instr.alloc t true (.tuple #[])).run P w = .ok r' w'∧zz1 N w₀ ρ H w r H' r' w':=by
 obtain⟨h1,rfl,rfl⟩:=zbwh hn
 obtain⟨x,hx,r',w',g1,g2⟩:=zbve (P:=P) (N:=N) (ρ:=ρ) h.big hz h1
 cases hx
 exact⟨r',w',g1,by simpa[zwu] using zbd3 h g2⟩
theorem zbtv (h:Rel N w₀ ρ H w) {t:TypeId} {v v' r:V} {H':Heap} (hv:VRel ρ v v') (hn:zdf v H=some (r,H')) :
  ∃ r' w',(Instr.box t v').run P w = .ok r' w'∧zz1 N w₀ ρ H w r H' r' w':=by
 obtain⟨x,h1,rfl,rfl⟩:=zbwi hn
 obtain⟨x2,hx,r',w',g1,g2⟩:=zbvf (P:=P) (t:=t) h.big hv h1
 cases hx
 exact⟨r',w',g1,by simpa[zwu] using zbd3 h g2⟩
theorem zbqr (h:Rel N w₀ ρ H w) {t e:TypeId} {size bytes:Nat} {z n c n' c' r:V} {H':Heap} (hu:P.underlying t=some (.slice e)) (hs:zfz P e=some size) (hb:zod P e=some bytes) (hz:zgn P e=some z)
  (hsz:z.cells.size=size) (h0:0 < size) (hn:VRel ρ n n') (hc:VRel ρ c c') (hm:zu0 size bytes z.cells.toList n c H=some (r,H')) :
  ∃ r' w',(Instr.makeSlice t n' c').run P w = .ok r' w'∧zz1 N w₀ ρ H w r H' r' w':=by
 obtain⟨v,x,h1,rfl,rfl⟩:=zbtt hm
 obtain⟨x2,hx,r',w',g1,g2⟩:=zbqo (P:=P) (t:=t) h.big hu hs hb hz hsz h0 hn hc h1
 cases hx
 exact⟨r',w',g1,zbd3 h g2⟩
theorem zbtw (h:Rel N w₀ ρ H w) {t e:TypeId} {size len:Nat} {z r:V} {H':Heap} {parts:Array (Nat × Operand)} {ev c:Operand→V} (hr:∀ z,VRel ρ (ev z) (c z)) (hu:P.underlying t=some (.slice e)) (hs:zfz P e=some size) (hz:zgn P e=some z)
  (hlen:len * size≤16777216) (hsz:z.cells.size=size) (h0:0 < size) (hm:zcz size len (rep len z.cells.toList) (znj size ev parts.toList) H=some (r,H')) :
  ∃ r' w',(Instr.buildSlice t len (parts.map fun p=>(p.1,c p.2))).run P w = .ok r' w'∧zz1 N w₀ ρ H w r H' r' w':=by
 obtain⟨v,x,h1,rfl,rfl⟩:=zbwj hm
 obtain⟨x2,hx,r',w',g1,g2⟩:=zbvh (P:=P) (t:=t) h.big hr hu hs hz hlen hsz h0 h1
 cases hx
 exact⟨r',w',g1,zbd3 h g2⟩
theorem zbwk (h:Rel N w₀ ρ H w) {e:TypeId} {a a' r:V} {H':Heap} (ha:VRel ρ a a') (hm:s2b a H=some (r,H')) :
  ∃ s r' w',a' = .string s∧(Conv.stringToBytes e s).run P w = .ok r' w'∧zz1 N w₀ ρ H w r H' r' w':=by
 obtain⟨v,x,h1,rfl,rfl⟩:=zbyj hm
 obtain⟨x2,hx,s,r',w',g0,g1,g2⟩:=zbyi (P:=P) (e:=e) h.big ha h1
 cases hx
 exact⟨s,r',w',g0,g1,zbd3 h g2⟩
end Go.AM

/- append and copy; maps that are written. -/
namespace Go.AM
open Go.RowKit (Below)
variable {P:Program} {N:Nat} {w₀:World} {ρ:Ren} {H:Heap} {w:World}
theorem zb5e (h:Rel N w₀ ρ H w) (y:Blk) (L:Loc) (hN:N≤L.blk) (hfree:∀ b x M,H.get b=some x→ρ b=some M→M.blk≠L.blk) (w':World)
  (hos:w'.os=w.os) (htape:w'.tape=w.tape) (hout:w'.output=w.output) (hsz:w'.heap.size=w.heap.size) (hold:∀ k,k≠L.blk→w'.heap[k]? = w.heap[k]?)
  (hy:BRel N (ρ.add H.next L) w' L y):Rel N w₀ (ρ.add H.next L) (H.push (some y)) w':=by
 have hno:ρ H.next=none:=h.dom _ (Nat.le_refl _)
 have hle:=Ren.le_add L hno
 refine⟨h.below.trans ⟨hos,htape,hout,by omega,fun k hk=>hold k (by omega)⟩,by rw[hsz];exact h.big,fun b hb=>?_,fun b hb=>by obtain⟨s,hs⟩:=h.base b hb;exact⟨s,hle _ _ hs⟩,fun b x hb=>?_,fun b b' x x' K K' hb hb' hne hK hK'=>?_⟩
 ·rw[Heap.next_push] at hb
  unfold Ren.add;rw[if_neg (by omega)]
  exact h.dom b (by omega)
 ·rw[Heap.get_push] at hb
  split at hb
  ·rename_i e;cases hb;subst e;exact⟨L,by simp[Ren.add],hy⟩
  ·obtain⟨K,hK,hr⟩:=h.blk b x hb
   exact⟨K,hle _ _ hK,hr.mono hle (hold _ (hfree b x K hb hK))⟩
 ·rw[Heap.get_push] at hb hb'
  unfold Ren.add at hK hK'
  by_cases e:b=H.next
  ·have e':b'≠H.next:=fun q=>hne (e.trans q.symm)
   rw[if_pos e] at hK;rw[if_neg e'] at hb' hK'
   cases hK
   exact fun q=>hfree b' x' K' hb' hK' q.symm
  ·by_cases e':b'=H.next
   ·rw[if_neg e] at hb hK;rw[if_pos e'] at hK'
    cases hK'
    exact hfree b x K hb hK
   ·rw[if_neg e] at hb hK;rw[if_neg e'] at hb' hK'
    exact h.inj b b' x x' K K' hb hb' hne hK hK'
structure Src (P:Program) (w:World) (ρ:Ren) (t u ty e:TypeId) (size bytes m:Nat) (z:V) (new:List V) (x':V):Prop where
 ex:∃ new',LRel ρ new new' ∧
  (∀ (base:Option Addr) (len ccap:Nat) (w':World),len + m≤ccap→(match base with | some a=>(storeCells (a.add (len * size)) new').run P w = .ok () w' | none=>w'=w) →
   (Builtin.append_ #[t,u] ty #[.slice base len ccap,x']).run P w = .ok (.slice base (len + m) ccap) w') ∧
  (∀ (base:Option Addr) (len ccap:Nat) (old':List V),(∀ q,(Builtin.firstCells size len (.slice base len ccap)).run P { w with drawn:=q } = .ok old'.toArray { w with drawn:=q })→¬ len + m≤ccap→(len + m) * bytes≤140737488355328→len + m≤35184372088832 →
   ∃ cap q,(len + m≤cap∧cap≤9223372036854775807)∧(Builtin.append_ #[t,u] ty #[.slice base len ccap,x']).run P w =
    .ok (.slice (some ⟨w.heap.size,0,none⟩) (len + m) cap) (({ w with drawn:=q }:World).alloc (.cells (old'.toArray ++ (new'.toArray ++ Builtin.zeroCells z.cells (cap - (len + m)))) e)))
theorem zbcn (C old new:List V) (off:Nat) (hold:(C.drop off).take old.length=old) (h:off + old.length + new.length≤C.length) :
  ((splice C (off + old.length) new).drop off).take (old ++ new).length=old ++ new:=by
 have h1:=z1h C new off old.length (old.length + new.length) (by omega) (by omega)
 rw[List.length_append,h1]
 apply List.ext_getElem?
 intro j
 rw[z2s _ _ _ _ (by simp;omega),List.getElem?_append]
 simp only[List.getElem?_take,List.getElem?_drop]
 by_cases hj:j < old.length
 ·rw[if_pos hj,if_pos hj,if_pos (by omega)]
  have:=congrArg (·[j]?) hold
  simpa[List.getElem?_take,hj,List.getElem?_drop] using this
 ·rw[if_neg hj,if_neg hj]
  by_cases h2:j < old.length + new.length
  ·rw[if_pos h2]
  ·rw[if_neg h2,if_neg h2,List.getElem?_eq_none (by omega)]
theorem zbi5 (z:Array V) (n:Nat):(Builtin.zeroCells z n).size=n * z.size:=by simp[Builtin.zeroCells]
theorem zbyk {n c t:Nat} {e:TypeId} (h:n≤140737488355328):(Question.appendCap n c e).cut t≤9223372036854775807:=by
 show n + t % (2 ^ 63 - n)≤9223372036854775807
 have:=Nat.mod_lt t (show 0 < 2 ^ 63 - n by omega)
 omega
def AppT (P:Program) (u:TypeId):Prop:=(∃ q,P.underlying u=some (.slice q))∨P.underlying u=some .string
theorem z5s {t u ty e:TypeId} {size n len ccap:Nat} {x':V} {base:Option Addr} {new':List V} {w':World} (hu:P.underlying t=some (.slice e)) (hd:AppT P u) (hsz:(sizeOf e).run P w = .ok size w)
  (hlen:(Builtin.lenOf x').run P w = .ok n w) (hfw:(Builtin.firstCells size n x').run P w = .ok new'.toArray w) (hfit:len + n≤ccap)
  (hst:match base with | some a=>(storeCells (a.add (len * size)) new').run P w = .ok () w' | none=>w'=w) :
  (Builtin.append_ #[t,u] ty #[.slice base len ccap,x']).run P w = .ok (.slice base (len + n) ccap) w':=by
 rcases hd with⟨q,hd⟩ | hd <;> cases base with
 | none=>simp only at hst;subst hst;simp[Builtin.append_,run_underlying hu,run_underlying hd,hsz,hlen,hfw,hfit]
 | some a=>simp only at hst;simp[Builtin.append_,run_underlying hu,run_underlying hd,hsz,hlen,hfw,hfit,hst]
theorem zboc {t u ty e:TypeId} {size bytes n len ccap:Nat} {z x':V} {base:Option Addr} {old' new':List V} (hu:P.underlying t=some (.slice e)) (hd:AppT P u) (hsz:zfz P e=some size) (hb:zod P e=some bytes) (hz:zgn P e=some z) (hb0:0 < bytes)
  (hlen:(Builtin.lenOf x').run P w = .ok n w) (hfo:∀ q,(Builtin.firstCells size len (.slice base len ccap)).run P { w with drawn:=q } = .ok old'.toArray { w with drawn:=q })
  (hfn:∀ q,(Builtin.firstCells size n x').run P { w with drawn:=q } = .ok new'.toArray { w with drawn:=q }) (hno:¬ len + n≤ccap) (hbig:(len + n) * bytes≤140737488355328) :
  ∃ cap q,(len + n≤cap∧cap≤9223372036854775807)∧(Builtin.append_ #[t,u] ty #[.slice base len ccap,x']).run P w =
   .ok (.slice (some ⟨w.heap.size,0,none⟩) (len + n) cap) (({ w with drawn:=q }:World).alloc (.cells (old'.toArray ++ (new'.toArray ++ Builtin.zeroCells z.cells (cap - (len + n)))) e)):=by
 obtain⟨i,hi,hib⟩:=zwy hb w
 have hi2:∀ q,(typeInfo e).run P { w with drawn:=q } = .ok i { w with drawn:=q } := by
  intro q
  obtain⟨j,hj,_⟩:=zwy hb ({ w with drawn:=q }:World)
  have:i=j:=by
   simp only[typeInfo,Sem.run_bind,run_program,Result.andThen_ok] at hi hj
   cases hq:P.info? e with
   | none=>simp[hq] at hi
   | some x=>simp[hq] at hi hj;rw[← hi,← hj]
  rw[this];exact hj
 have hgf:¬ (Builtin.nextslicecap (len + n) ccap * bytes > 281474976710656):=by have:=growslice_fits (bytes:=bytes) (show ccap < len + n by omega) hbig;omega
 refine⟨(Question.appendCap (len + n) ccap e).cut (w.tape w.drawn (.appendCap (len + n) ccap e)),w.drawn + 1,⟨Nat.le_add_right _ _,zbyk (by have:=Nat.le_mul_of_pos_right (len + n) hb0;omega)⟩,?_⟩
 have hbn:¬ (i.bytes=0):=by omega
 have hgf':¬ (281474976710656 < Builtin.nextslicecap (len + n) ccap * i.bytes):=by rw[hib];omega
 have k1:(typeInfo e).run P w.drew = .ok i w.drew:=hi2 (w.drawn + 1)
 have k2:(Builtin.firstCells size len (.slice base len ccap)).run P w.drew = .ok old'.toArray w.drew:=hfo (w.drawn + 1)
 have k3:(Builtin.firstCells size n x').run P w.drew = .ok new'.toArray w.drew:=hfn (w.drawn + 1)
 have k4:(zeroValue e).run P w.drew = .ok z w.drew:=zjk hz _
 have k5:(Question.appendCap (len + n) ccap e).forced=false:=rfl
 rcases hd with⟨qq,hd⟩ | hd <;>
  simp[Builtin.append_,run_underlying hu,run_underlying hd,zdt hsz w,hlen,hno,hi,hbn,hgf',k1,k2,k3,k4,k5,newRow]
theorem zbyl {t u ty e:TypeId} {size bytes n:Nat} {z x':V} {new new':List V} (hu:P.underlying t=some (.slice e)) (hd:AppT P u) (hsz:zfz P e=some size) (hb:zod P e=some bytes) (hz:zgn P e=some z) (hb0:0 < bytes)
  (hlen:(Builtin.lenOf x').run P w = .ok n w) (hfn:∀ q,(Builtin.firstCells size n x').run P { w with drawn:=q } = .ok new'.toArray { w with drawn:=q }) (hr:LRel ρ new new'):Src P w ρ t u ty e size bytes n z new x' :=
 ⟨new',hr,fun base len ccap w' h1 h2=>z5s hu hd (zdt hsz w) hlen (hfn w.drawn) h1 h2,
  fun base len ccap old' h1 h2 h3 _=>zboc hu hd hsz hb hz hb0 hlen h1 hfn h2 h3⟩
theorem wrap_i64 {n:Nat} (h:n≤35184372088832):IntKind.i64.wrap (n:Int)=n:=by
 rw[IntKind.wrap_i64];omega
theorem zbym {t u ty e:TypeId} {k k2:IntKind} {size bytes n:Nat} {z:V} {new':List V} (hu:P.underlying t=some (.slice e)) (hd:P.underlying u=some (.int k)) (hsz:zfz P e=some size) (hb:zod P e=some bytes) (hz:zgn P e=some z) (hb0:0 < bytes) (h0:0 < size)
  (hn:n * bytes≤35184372088832) (hn2:n≤35184372088832) (hnew:new'.toArray=Builtin.zeroCells z.cells n) {new:List V} (hr:LRel ρ new new'):Src P w ρ t u ty e size bytes n z new (.int k2 n):=by
 obtain⟨i,hi,hib⟩:=zwy hb w
 have hw:=wrap_i64 hn2
 have hl:¬ ((n:Int) < 0):=by omega
 have hmul:(n:Int) * (i.bytes:Int)=((n * bytes:Nat):Int):=by rw[hib];exact (Int.natCast_mul n bytes).symm
 have hm:¬ (281474976710656 < (n:Int) * (i.bytes:Int)):=by rw[hmul];omega
 have hzr:∀ v:World,(zeroValue e).run P v = .ok z v:=fun v=>zjk hz v
 have hnil:n * size=0→new'=[]∧Builtin.zeroCells z.cells n=#[]:=fun h1=>by
  have:n=0:=by rcases Nat.mul_eq_zero.mp h1 with h | h <;> omega
  subst this
  have e1:Builtin.zeroCells z.cells 0=#[]:=by simp[Builtin.zeroCells]
  refine⟨?_,e1⟩
  rw[e1] at hnew
  simpa using congrArg Array.toList hnew
 have htl:(Builtin.zeroCells z.cells n).toList=new':=by rw[← hnew]
 refine⟨new',hr,fun base len ccap w' h1 h2=>?_,fun base len ccap old' h1 h2 h3 h4=>?_⟩
 ·cases base with
  | none =>
   simp only at h2;rw[h2]
   simp[Builtin.append_,run_underlying hu,run_underlying hd,zdt hsz w,asInt,asIntOf,hw,hl,hi,hm,h1,hzr]
  | some a =>
   simp only at h2
   by_cases hn0:n * size=0
   ·rw[(hnil hn0).1] at h2
    simp[Builtin.append_,run_underlying hu,run_underlying hd,zdt hsz w,asInt,asIntOf,hw,hl,hi,hm,h1,hn0,h2]
   ·simp[Builtin.append_,run_underlying hu,run_underlying hd,zdt hsz w,asInt,asIntOf,hw,hl,hi,hm,h1,hzr,hn0,htl,h2]
 ·have hi2:∀ q,(typeInfo e).run P { w with drawn:=q } = .ok i { w with drawn:=q } := by
   intro q
   obtain⟨j,hj,_⟩:=zwy hb ({ w with drawn:=q }:World)
   have:i=j:=by
    simp only[typeInfo,Sem.run_bind,run_program,Result.andThen_ok] at hi hj
    cases hq:P.info? e with
    | none=>simp[hq] at hi
    | some x=>simp[hq] at hi hj;rw[← hi,← hj]
   rw[this];exact hj
  have hgf:¬ (Builtin.nextslicecap (len + n) ccap * bytes > 281474976710656):=by have:=growslice_fits (bytes:=bytes) (show ccap < len + n by omega) h3;omega
  refine⟨(Question.appendCap (len + n) ccap e).cut (w.tape w.drawn (.appendCap (len + n) ccap e)),w.drawn + 1,⟨Nat.le_add_right _ _,zbyk (by omega)⟩,?_⟩
  have hgf':¬ (281474976710656 < Builtin.nextslicecap (len + n) ccap * i.bytes):=by rw[hib];omega
  have hbig:¬ ((9223372036854775807:Int) < (len:Int) + n):=by omega
  have k1:(typeInfo e).run P w.drew = .ok i w.drew:=hi2 (w.drawn + 1)
  have k2:(Builtin.firstCells size len (.slice base len ccap)).run P w.drew = .ok old'.toArray w.drew:=h1 (w.drawn + 1)
  have k5:(Question.appendCap (len + n) ccap e).forced=false:=rfl
  by_cases hn0:n * size=0
  ·rw[(hnil hn0).1]
   simp[Builtin.append_,run_underlying hu,run_underlying hd,zdt hsz w,asInt,asIntOf,hw,hl,hi,hm,h2,hgf',hbig,k1,k2,k5,hn0,hzr,newRow,IntKind.max,IntKind.signed,IntKind.bits]
  ·simp[Builtin.append_,run_underlying hu,run_underlying hd,zdt hsz w,asInt,asIntOf,hw,hl,hi,hm,h2,hgf',hbig,k1,k2,k5,hn0,hzr,hnew,newRow,IntKind.max,IntKind.signed,IntKind.bits]
set_option maxHeartbeats 1000000 in
theorem z5t (h:Rel N w₀ ρ H w) {t u ty e:TypeId} {size bytes n:Nat} {z s s' x' r:V} {new:List V} {H':Heap} (hu:P.underlying t=some (.slice e))
  (hsz:zfz P e=some size) (hb:zod P e=some bytes) (hz:zgn P e=some z) (hzs:z.cells.size=size) (h0:0 < size) (hb0:0 < bytes) (hs:VRel ρ s s')
  (hsrc:Src P w ρ t u ty e size bytes n z new x') (hnl:new.length=n * size) (hm:z1d size bytes s n (some new) H=some (r,H')) :
  ∃ r' w',(Builtin.append_ #[t,u] ty #[s',x']).run P w = .ok r' w'∧zz1 N w₀ ρ H w r H' r' w':=by
 obtain⟨new',hnew,hfits,hgrows⟩:=hsrc.ex
 have hnl':new'.length=n * size:=by rw[← hnew.length,hnl]
 unfold z1d at hm
 split at hm
 ·rename_i x len cap
  split at hm
  ·-- nothing is appended
   rename_i hn0
   cases hm
   subst hn0
   refine⟨s',w,?_,ρ,hs,h,.refl _ _ _⟩
   have hne:new'=[]:=List.eq_nil_of_length_eq_zero (by simpa using hnl')
   generalize s'=s2 at hs
   cases hs with
   | snil=>exact hfits _ _ _ _ (Nat.le_refl _) rfl
   | slc b o u2 len cap L co ccap ca hL ho hl hc hss hca hmx=>exact hfits _ _ _ _ (by omega) (by rw[hne];rfl)
  ·rename_i hn0
   split at hm
   ·rename_i new2 old K hnew2 hold hK
    cases hnew2
    split at hm
    ·rename_i hcond
     obtain⟨hc1,hc2,hc3,hc4⟩:=hcond
     cases hm
     have hnew1:=z2t hnew hc3
     have hmain:∃ base ccap old',s' = .slice base len ccap∧LRel ρ old old'∧old'.length=len * size∧(∀ n,(Builtin.firstCells size len s').run P { w with drawn:=n } = .ok old'.toArray { w with drawn:=n })∧Rel N w₀ ρ K w∧K.next=H.next∧Ext ρ H w ρ K w ∧
       (len + n≤ccap→∃ cb co C el f,base=some ⟨cb,co,none⟩∧w.heap[cb]? = some (.cells C el f)∧co + (len + n) * size≤C.size∧N≤cb∧(∀ i,i < C.size→¬ (f.1≤i∧i < f.2))∧(C.toList.drop co).take old'.length=old' ∧
        (∀ b x M,K.get b=some x→ρ b=some M→M.blk≠cb)∧(∃ b x M,H.get b=some x∧ρ b=some M∧M.blk=cb)):=by
      generalize hs2:s'=s2 at hs
      cases hs with
      | snil =>
       simp only[zbr] at hold;cases hold
       simp only[zwp] at hK;cases hK
       refine⟨none,0,[],rfl,.nil,by simp,fun q=>by simp[Builtin.firstCells],h,rfl,.refl _ _ _,fun q=>by omega⟩
      | slc b o u2 len cap L co ccap ca hL ho hl hc hss hca hmx =>
       simp only[zwp] at hK
       split at hK
       ·rename_i cs hb2
        split at hK
        ·rename_i hu2
         cases hK
         subst hu2
         obtain⟨C,el,f,c1,c2,c3,c4,c5⟩:=h.cells hb2 hL
         have hold':∃ old',LRel ρ old old'∧old'.length=len * u2∧(∀ j v,old'[j]? = some v→w.cell? ⟨L.blk,co + j,none⟩=some v)∧(co + len * u2≤C.size→(C.toList.drop co).take old'.length=old'):=by
          simp only[zbr] at hold
          split at hold
          ·rename_i hl0;cases hold;exact⟨[],.nil,by simp[hl0],by simp,by simp⟩
          ·rename_i hl0
           have hco:co=L.off + o:=by rcases ho with ho | ho <;> omega
           subst hco
           obtain⟨q1,old',q2,q3⟩:=h.cellsAt hold hL
           have q4:old'.length=len * u2:=by rw[← q2.length];exact q1
           refine⟨old',q2,q4,q3,fun hle=>?_⟩
           apply List.ext_getElem?
           intro j
           by_cases hj:j < old'.length
           ·have:=q3 j old'[j] (by simp[hj])
            rw[zbih c1] at this
            simp only[List.getElem?_take,hj,if_true,List.getElem?_drop,List.getElem?_eq_getElem hj]
            simpa using this
           ·simp[List.getElem?_take,hj,List.getElem?_eq_none (Nat.le_of_not_lt hj)]
         obtain⟨old',o1,o2,o3,o4⟩:=hold'
         rcases hca with rfl | hz0
         rotate_left
         ·obtain rfl:len=0:=by omega
          have:old'=[]:=List.eq_nil_of_length_eq_zero (by simpa using o2)
          refine⟨_,ccap,old',rfl,o1,o2,fun q=>?_,h.kill hb2,Heap.next_set _ _ _,zbqm hb2,fun hroom=>by omega⟩
          rw[this];simp[Builtin.firstCells,loadCells,loadCellsFrom]
         refine⟨_,ccap,old',rfl,o1,o2,fun q=>?_,h.kill hb2,Heap.next_set _ _ _,zbqm hb2,fun hroom=>?_⟩
         ·simp only[Builtin.firstCells]
          have:=zjl (P:=P) (w:={ w with drawn:=q }) (b:=L.blk) (o:=co) (l:=old') o3
          rw[o2] at this;exact this
         ·have hsize:co + ccap * u2≤C.size:=by
           rcases hss with q | q
           ·omega
           ·omega
          have hmul:(len + n) * u2≤ccap * u2:=Nat.mul_le_mul_right _ hroom
          have hmul2:len * u2≤(len + n) * u2:=Nat.mul_le_mul_right _ (by omega)
          refine⟨L.blk,co,C,el,f,rfl,c1,by omega,(c3 rfl).1,(c3 rfl).2,o4 (by omega),fun b' x' M hb' hM=>?_,b,_,L,hb2,hL,rfl⟩
          rw[Heap.get_set H b _ _ (Heap.get_lt hb2)] at hb'
          split at hb'
          ·cases hb'
          ·rename_i hne
           exact h.inj b' b x' _ M L hb' hb2 hne hM hL
        ·cases hK
       ·cases hK
     obtain⟨base,ccap,old',rfl,hro,holdl,hfo,hRK,hKn,hEK,hroom⟩:=hmain
     have hdist:(len + n) * size=len * size + n * size:=Nat.add_mul _ _ _
     by_cases hfit:len + n≤ccap
     ·-- there is room
      obtain⟨cb,co,C,el,f,rfl,hcb,hcs,hNcb,hfz,hpre,hfree,halive⟩:=hroom hfit
      obtain⟨w',r1,r2,r3,r4,r5,r6,C',r7,r8,r9⟩:=zwz (P:=P) cb (co + len * size) el f new' 0 C w hcb (by omega) hfz hnew1
      have hlay:(C'.toList.drop co).take (old ++ new).length=old' ++ new':=by
       have e1:(old ++ new).length=(old' ++ new').length:=by simp[hro.length,hnew.length]
       rw[e1,r8,Nat.add_zero,← holdl]
       exact zbcn C.toList old' new' co hpre (by simp;omega)
      have hno:ρ K.next=none:=hRK.dom _ (Nat.le_refl _)
      have hR:=zb5e hRK (.cells true (old ++ new)) ⟨cb,co,C.size⟩ hNcb hfree w' r3 r4 r5 r2 r6
       ⟨C',el,f,r7,r9,⟨fun _=>⟨hNcb,by rw[r9];exact hfz⟩,fun q=>by cases q⟩,by simp[hro.length,hnew.length];omega,by
        show LRel _ (old ++ new) ((C'.toList.drop co).take (old ++ new).length)
        rw[hlay];exact (hro.append hnew).mono (Ren.le_add _ hno)⟩
      refine⟨.slice (some ⟨cb,co,none⟩) (len + n) ccap,w',?_,_,.slc K.next 0 size (len + n) (len + n) ⟨cb,co,C.size⟩ co ccap _ (by simp[Ren.add]) (.inl rfl) (Nat.le_refl _) hfit (.inr ?_) (.inl rfl) ?_,hR,?_⟩
      ·exact hfits _ _ _ _ hfit (by show (storeCells ((⟨cb,co,none⟩:Addr).add (len * size)) new').run P w=_;rw[zbto];exact r1)
      ·show co + ccap * size≤C.size
       have:∃ b x M,H.get b=some x∧ρ b=some M∧M.blk=cb:=halive
       generalize hs3:(Value.slice (some ⟨cb,co,none⟩) len ccap)=s3 at hs
       cases hs with
       | snil=>cases hs3
       | slc b o u2 len cap L co2 ccap2 ca2 hL ho hl hc hss hca hmx =>
        cases hs3
        have hca':(⟨cb,co,none⟩:Addr)=⟨L.blk,co2,none⟩:=hca.resolve_right (fun hq=>absurd hq (Nat.ne_of_gt (Nat.lt_of_lt_of_le (Nat.pos_of_ne_zero hn0) (Nat.le_trans (Nat.le_add_left _ _) hfit))))
        cases hca'
        simp only[zwp] at hK
        split at hK
        ·rename_i cs hb2
         split at hK
         ·rename_i hu2;subst hu2
          obtain⟨C2,el2,f2,c1,c2,_⟩:=h.cells hb2 hL
          rw[hcb] at c1;cases c1
          rcases hss with q | q
          ·omega
          ·omega
         ·cases hK
        ·cases hK
      ·generalize hs3:(Value.slice (some ⟨cb,co,none⟩) len ccap)=s3 at hs
       cases hs with
       | snil=>cases hs3
       | slc b o u2 len cap L co2 ccap2 ca2 hL ho hl hc hss hca hmx =>
        cases hs3
        simp only[zwp] at hK
        split at hK
        ·split at hK
         ·rename_i hu2;subst hu2
          exact hmx
         ·cases hK
        ·cases hK
      ·refine⟨Ren.le_add _ hno,fun b hb=>by unfold Ren.add;rw[if_neg (by omega)],by rw[Heap.next_push];omega,⟨by omega,fun c hc hn=>r6 c fun ec=>?_⟩,fun b y M hb hM=>?_⟩
       ·obtain⟨b1,x1,M1,q1,q2,q3⟩:=halive
        exact hn b1 x1 M1 q1 q2 (q3.trans ec.symm)
       ·rw[Heap.get_push] at hb
        unfold Ren.add at hM
        split at hb
        ·rename_i e1;rw[if_pos e1] at hM;cases hM
         obtain⟨b1,x1,M1,q1,q2,q3⟩:=halive
         exact .inr ⟨b1,x1,M1,q1,q2,q3⟩
        ·rename_i e1;rw[if_neg e1] at hM
         exact hEK.old b y M hb hM
     ·-- a new array
      have hbig:(len + n) * bytes≤140737488355328:=by omega
      obtain⟨ncap,q,⟨hcap,hcmx⟩,hrun⟩:=hgrows _ _ _ _ hfo hfit hbig hc2
      let C:Array V:=old'.toArray ++ (new'.toArray ++ Builtin.zeroCells z.cells (ncap - (len + n)))
      have hCl:C.toList=(old' ++ new') ++ (Builtin.zeroCells z.cells (ncap - (len + n))).toList:=by simp[C]
      have hCs:C.size=ncap * size:=by
       have:ncap * size=(len + n) * size + (ncap - (len + n)) * size:=by rw[← Nat.add_mul];congr 1;omega
       simp only[C,Array.size_append,zbi5,hzs,List.size_toArray,holdl,hnl']
       omega
      have hlen2:(old ++ new).length=(old' ++ new').length:=by simp[hro.length,hnew.length]
      have hle3:(len + n) * size≤ncap * size:=Nat.mul_le_mul_right _ hcap
      obtain⟨ρ',g1,g2,g3⟩:=zbql (hRK.drew q) (old ++ new) C e (0,0) (by simp) (by rw[hlen2,hCs];simp;omega)
       (by rw[hlen2,hCl,List.take_append_of_le_length (Nat.le_refl _),List.take_of_length_le (Nat.le_refl _)];exact hro.append hnew)
      exact⟨_,_,hrun,ρ',.slc K.next 0 size (len + n) (len + n) _ 0 ncap _ g3 (.inl rfl) (Nat.le_refl _) hcap (.inr (by show 0 + ncap * size≤C.size;omega)) (.inl rfl) (.inr hcmx),g1,hEK.trans g2.drawn⟩
    ·cases hm
   ·cases hm
 ·cases hm
end Go.AM

/- Operations that make and write memory: the theorem. -/
namespace Go.AM
open Go.RowKit (Below)
variable {P:Program} {N:Nat} {w₀:World} {ρ:Ren} {H:Heap} {w:World}
theorem zbgf (h:Rel N w₀ ρ H w) {size len:Nat} {x x':V} {l:List V} (hx:VRel ρ x x') (hl:zfj x=len) (hc:zbr H size x=some l) :
  l.length=len * size∧(Builtin.lenOf x').run P w = .ok len w∧∃ l',LRel ρ l l'∧∀ n,(Builtin.firstCells size len x').run P { w with drawn:=n } = .ok l'.toArray { w with drawn:=n } := by
 unfold zbr at hc
 split at hc
 ·cases hc
  obtain⟨_,_,rfl⟩:=hx.snil_inv
  simp only[zfj] at hl;subst hl
  exact⟨by simp,by simp[Builtin.lenOf],[],.nil,fun n=>by simp[Builtin.firstCells]⟩
 ·rename_i b o u ln cap
  simp only[zfj] at hl;subst hl
  obtain⟨L,co,ccap,ca,hL,rfl,ho,hln,_,_,hca,_⟩:=hx.slc_inv
  split at hc
  ·rename_i h0;cases hc;subst h0
   exact⟨by simp,by simp[Builtin.lenOf],[],.nil,fun n=>by simp[Builtin.firstCells,loadCells,loadCellsFrom]⟩
  ·rename_i h0
   have hco:co=L.off + o:=by rcases ho with ho | ho <;> omega
   subst hco
   obtain rfl:ca=⟨L.blk,L.off + o,none⟩:=hca.resolve_right (by omega)
   obtain⟨h1,l',h2,h3⟩:=h.cellsAt hc hL
   refine⟨h1,by simp[Builtin.lenOf],l',h2,fun n=>?_⟩
   simp only[Builtin.firstCells]
   have:=zjl (P:=P) (w:={ w with drawn:=n }) (b:=L.blk) (o:=L.off + o) (l:=l') h3
   rw[← h2.length,h1] at this
   exact this
 ·cases hc
theorem zbtx (h:Rel N w₀ ρ H w) {t u ty e q:TypeId} {size bytes:Nat} {z s s' x x' r:V} {H':Heap} (hu:P.underlying t=some (.slice e)) (hd:P.underlying u=some (.slice q))
  (hsz:zfz P e=some size) (hb:zod P e=some bytes) (hz:zgn P e=some z) (hzs:z.cells.size=size) (h0:0 < size) (hb0:0 < bytes) (hs:VRel ρ s s') (hx:VRel ρ x x')
  (hm:zc4 size bytes s x H=some (r,H')):∃ r' w',(Builtin.append_ #[t,u] ty #[s',x']).run P w = .ok r' w'∧zz1 N w₀ ρ H w r H' r' w':=by
 unfold zc4 at hm
 split at hm
 ·rename_i a n c
  cases hcs:zbr H size (.slice a n c) with
  | some new =>
   rw[hcs] at hm
   obtain⟨h1,h2,new',h3,h4⟩:=zbgf (P:=P) h hx rfl hcs
   exact z5t h hu hsz hb hz hzs h0 hb0 hs (zbyl hu (.inl ⟨_,hd⟩) hsz hb hz hb0 h2 h4 h3) h1 hm
  | none =>
   rw[hcs] at hm
   unfold z1d at hm
   split at hm
   ·rename_i y len cap
    split at hm
    ·rename_i hn;cases hm;subst hn
     refine⟨s',w,?_,ρ,hs,h,.refl _ _ _⟩
     generalize hx2:x'=x2 at hx
     generalize hs2:s'=s2 at hs
     have hfw:(Builtin.lenOf x2).run P w = .ok 0 w∧(Builtin.firstCells size 0 x2).run P w = .ok (#[]:Array V) w:=by
      cases hx <;> exact⟨by simp[Builtin.lenOf],by simp[Builtin.firstCells,loadCells,loadCellsFrom]⟩
     cases hs with
     | snil=>exact z5s (new':=[]) hu (.inl ⟨_,hd⟩) (zdt hsz w) hfw.1 hfw.2 (Nat.le_refl _) rfl
     | slc b o u2 len cap L co ccap ca hL ho hl hc hss hca hmx=>exact z5s (new':=[]) hu (.inl ⟨_,hd⟩) (zdt hsz w) hfw.1 hfw.2 (by omega) rfl
    ·simp at hm
   ·cases hm
 ·cases hm
theorem zbhi (s:ByteArray) (n:Nat):((s.extract 0 n).data.map fun b=>Value.int .u8 (b.toNat:Int)).toList=(zqh s).take n:=by
 simp[zqh,ByteArray.data_extract]
theorem zbty (h:Rel N w₀ ρ H w) {t u ty e:TypeId} {z s s' x x' r:V} {H':Heap} (hu:P.underlying t=some (.slice e)) (hd:P.underlying u=some .string)
  (hsz:zfz P e=some 1) (hb:zod P e=some 1) (hz:zgn P e=some z) (hzs:z.cells.size=1) (hs:VRel ρ s s') (hx:VRel ρ x x')
  (hm:appS s x H=some (r,H')):∃ r' w',(Builtin.append_ #[t,u] ty #[s',x']).run P w = .ok r' w'∧zz1 N w₀ ρ H w r H' r' w':=by
 unfold appS at hm
 split at hm
 ·rename_i str
  rw[hx.string_inv]
  refine z5t h hu hsz hb hz hzs (by omega) (by omega) hs (zbyl hu (.inr hd) hsz hb hz (by omega) (by simp[Builtin.lenOf]) (fun n=>?_) (zbcm str)) (by rw[zz2];omega) hm
  simp only[Builtin.firstCells,Sem.run_pure]
  congr 1
  apply Array.ext'
  rw[zbhi,List.take_of_length_le (by rw[zz2];exact Nat.le_refl _)]
 ·cases hm
theorem zbtz (h:Rel N w₀ ρ H w) {t u ty e:TypeId} {k:IntKind} {size bytes:Nat} {z s s' x x' r:V} {H':Heap} (hu:P.underlying t=some (.slice e)) (hd:P.underlying u=some (.int k))
  (hsz:zfz P e=some size) (hb:zod P e=some bytes) (hz:zgn P e=some z) (hzs:z.cells.size=size) (h0:0 < size) (hb0:0 < bytes) (hs:VRel ρ s s') (hx:VRel ρ x x')
  (hm:appZ size bytes z.cells.toList s x H=some (r,H')):∃ r' w',(Builtin.append_ #[t,u] ty #[s',x']).run P w = .ok r' w'∧zz1 N w₀ ρ H w r H' r' w':=by
 unfold appZ at hm
 split at hm
 ·rename_i k2 n
  split at hm
  ·rename_i hc
   obtain⟨hfl,hn0,hc1,hc2⟩:=hc
   have e1:=hx.int_inv;subst e1
   obtain⟨m,rfl⟩:∃ m:Nat,n=m:=⟨n.toNat,by omega⟩
   simp only[Int.toNat_natCast] at hm hc1 hc2
   have hzc:(Builtin.zeroCells z.cells m).toList=rep m z.cells.toList:=zbi4 z.cells m (by omega)
   exact z5t h hu hsz hb hz hzs h0 hb0 hs (zbym (new':=rep m z.cells.toList) hu hd hsz hb hz hb0 h0 hc1 hc2 (by rw[← hzc]) (zbob (zbge hfl) m)) (by rw[zw0];simp[hzs]) hm
  ·cases hm
 ·cases hm
theorem zbwl (h:Rel N w₀ ρ H w) {t u ty e:TypeId} {size:Nat} {d d' x x' r:V} {H':Heap} (hu:P.underlying t=some (.slice e)) (hsz:zfz P e=some size) (hd:VRel ρ d d') (hx:VRel ρ x x')
  (hm:cpy size d x H=some (r,H')):∃ r' w',(Builtin.copy_ #[t,u] ty #[d',x']).run P w = .ok r' w'∧zz1 N w₀ ρ H w r H' r' w':=by
 unfold cpy at hm
 split at hm
 ·-- nil
   obtain⟨rfl,rfl,rfl⟩:=hd.snil_inv
   split at hm
   ·rename_i a n c
    cases hm
    refine⟨i64 0,w,?_,ρ,.int _ _,h,.refl _ _ _⟩
    generalize x'=x2 at hx
    cases hx <;> simp[Builtin.copy_,run_underlying hu,Builtin.lenOf,zdt hsz w,Builtin.firstCells,loadCells,loadCellsFrom,goInt]
   ·cases hm
    rw[hx.string_inv]
    exact⟨i64 0,w,by simp[Builtin.copy_,run_underlying hu,Builtin.lenOf,zdt hsz w,Builtin.firstCells,goInt],ρ,.int _ _,h,.refl _ _ _⟩
   ·cases hm
 ·rename_i b o u2 dlen dcap
  ·split at hm
   ·rename_i l hl
    split at hm
    ·rename_i cs hb
     split at hm
     ·rename_i hcond
      simp only[Bool.and_eq_true,decide_eq_true_eq,beq_iff_eq] at hcond
      obtain⟨⟨c1,c2⟩,c3⟩:=hcond
      cases hm
      obtain⟨L,co,ccap,ca,hL,rfl,ho,hlen,hcap,hss,hca,_⟩:=hd.slc_inv
      have hsrc:(Builtin.lenOf x').run P w = .ok (zfj x) w∧∃ l',LRel ρ l l'∧(Builtin.firstCells size (Nat.min (zfj x) dlen) x').run P w = .ok l'.toArray w:=by
       unfold zbx9 at hl
       split at hl
       ·rename_i str
        cases hl
        rw[hx.string_inv]
        refine⟨by simp[Builtin.lenOf,zfj],(zqh str).take (Nat.min (zfj (.string str)) dlen),(zbcm str).take _,?_⟩
        simp only[Builtin.firstCells,Sem.run_pure]
        congr 1
        apply Array.ext'
        rw[zbhi]
       ·cases hl
        obtain⟨e1,_,rfl⟩:=hx.snil_inv
        exact⟨by simp[Builtin.lenOf,zfj,e1],[],.nil,by simp[Builtin.firstCells]⟩
       ·rename_i b' o' u' ln' cap'
        obtain⟨L',co',ccap',ca',hL',rfl,ho',hln',_,_,hca',_⟩:=hx.slc_inv
        obtain⟨q1,l',q2,q3⟩:=h.cellsAt hl hL'
        refine⟨by simp[Builtin.lenOf,zfj],l',q2,?_⟩
        simp only[Builtin.firstCells]
        rcases hca' with rfl | hz'
        rotate_left
        ·have hz:ln'=0:=by omega
         subst hz
         have hmin:Nat.min (zfj (.slice (some ⟨b',o',some u'⟩) 0 cap')) dlen=0:=by simp[zfj]
         rw[hmin] at q1 ⊢
         have:l'=[]:=List.eq_nil_of_length_eq_zero (by rw[← q2.length,q1];simp)
         rw[this];simp[loadCells,loadCellsFrom]
        rcases ho' with ho' | ho'
        ·subst ho'
         have:=zjl (P:=P) (b:=L'.blk) (o:=L'.off + o') (l:=l') q3
         rw[← q2.length,q1] at this;exact this
        ·have hz:ln'=0:=by omega
         subst hz
         have hmin:Nat.min (zfj (.slice (some ⟨b',o',some u'⟩) 0 cap')) dlen=0:=by simp[zfj]
         rw[hmin] at q1 ⊢
         have:l'=[]:=List.eq_nil_of_length_eq_zero (by rw[← q2.length,q1];simp)
         rw[this];simp[loadCells,loadCellsFrom]
       ·cases hl
      obtain⟨hlen2,l',hrel,hfc⟩:=hsrc
      have hco:co=L.off + o∨l=[]:=by
       rcases ho with ho | ho
       ·exact .inl ho
       ·right;apply List.eq_nil_of_length_eq_zero;rw[c2];have:dlen=0:=by omega
        subst this;simp
      obtain⟨w',g1,g2,g3⟩:=zbck (P:=P) (o:=o) h hb hL (vs:=l) (vs':=l') (by omega) hrel (z2t hrel c1)
      have g1':(storeCells ca l').run P w = .ok () w':=by
       rcases hca with rfl | hz0
       rotate_left
       ·have hl0:l=[]:=by
         apply List.eq_nil_of_length_eq_zero;rw[c2];have:dlen=0:=by omega
         subst this;simp
        subst hl0;cases hrel;exact g1
       rcases hco with hco | hco
       ·rw[hco];exact g1
       ·subst hco;cases hrel;exact g1
      refine⟨i64 (Nat.min (zfj x) dlen),w',?_,ρ,.int _ _,g2,g3⟩
      have hfc':=hfc
      simp only[Builtin.copy_,Sem.run_bind]
      simp[run_underlying hu,hlen2,zdt hsz w,goInt]
      rw[hfc']
      simp[g1']
     ·cases hm
    ·cases hm
   ·cases hm
 ·cases hm
theorem zbhj (h:Rel N w₀ ρ H w) {r:V} {H':Heap} (hm:zwr H=some (r,H')):∃ r' w',(newObj (.map #[] 0)).run P w = .ok w.heap.size w'∧r' = .map (some w.heap.size)∧zz1 N w₀ ρ H w r H' r' w':=by
 unfold zwr at hm;cases hm
 obtain⟨g1,g2,g3⟩:=zbgd h (.map true []) (.map #[] 0) ⟨w.heap.size,0,0⟩ rfl ⟨rfl,#[],0,by show (w.heap.push _)[w.heap.size]? = _;simp,fun _=>⟨h.big,zbqc 0⟩,.nil,.nil⟩
 exact⟨_,_,rfl,rfl,_,.map H.next _ g3,g1,g2⟩
theorem zbm2:∀ {ks:List FK} {xs ys:List V},zlz ks xs ys=some true→∀ n,xs.length=ys.length∧(xs.zip ys).all (fun (x,y)=>Instr.sameBits n x y)=true
 | [],[],[],_,n=>⟨rfl,rfl⟩
 | k :: ks,x :: xs,y :: ys,h,n=>by
  simp only[zlz] at h
  split at h
  ·rename_i hq
   obtain⟨h1,h2⟩:=zbm2 h n
   have:Instr.sameBits n x y=true:=by
    cases k <;> cases x <;> cases y <;> simp only[eqK] at hq <;> first | (cases hq;done) | skip
    ·simpa[Instr.sameBits] using hq
    ·split at hq
     ·rename_i hk;subst hk;simpa[Instr.sameBits] using hq
     ·cases hq
    ·simp only[Instr.sameBits,beq_toListBytes,zsz];simpa using hq
   exact⟨by simp[h1],by simp only[List.zip_cons_cons,List.all_cons,this,Bool.true_and];exact h2⟩
  ·cases h
  ·cases h
 | [],[],_ :: _,h,_=>by simp[zlz] at h
 | [],_ :: _,_,h,_=>by simp[zlz] at h
 | _ :: _,[],_,h,_=>by simp[zlz] at h
 | _ :: _,_ :: _,[],h,_=>by simp[zlz] at h
theorem zbm3:∀ {ks:List FK} {xs ys xs' ys':List V},zlz ks xs ys=some true→LRel ρ xs xs'→LRel ρ ys ys'→zlz ks xs' ys'=some true
 | [],[],[],_,_,h,hx,hy=>by cases hx;cases hy;exact h
 | k :: ks,x :: xs,y :: ys,_,_,h,hx,hy=>by
  cases hx with
  | cons hx1 hx2 =>
   cases hy with
   | cons hy1 hy2 =>
    simp only[zlz] at h ⊢
    split at h
    ·rename_i hq
     obtain⟨e1,e2⟩:=z1f hq hx1 hy1
     rw[e1,e2,hq]
     exact zbm3 h hx2 hy2
    ·cases h
    ·cases h
 | [],[],_ :: _,_,_,h,_,_=>by simp[zlz] at h
 | [],_ :: _,_,_,_,h,_,_=>by simp[zlz] at h
 | _ :: _,[],_,_,_,h,_,_=>by simp[zlz] at h
 | _ :: _,_ :: _,[],_,_,h,_,_=>by simp[zlz] at h
theorem zbt0 {kk:KK} {a b a' b':V} (h:zwq kk a b=some true) (ha:VRel ρ a a') (hb:VRel ρ b b') (n:Nat):Instr.sameBits (n + 1) b' a'=true:=by
 cases kk with
 | one k =>
  simp only[zwq] at h
  obtain⟨rfl,rfl⟩:=z1f h ha hb
  cases k <;> cases a' <;> cases b' <;> simp only[eqK] at h <;> first | (cases h;done) | skip
  ·simp at h;simp[Instr.sameBits,h]
  ·split at h
   ·rename_i hk;subst hk;simp at h;simp[Instr.sameBits,h]
   ·cases h
  ·simp at h;simp[Instr.sameBits,h,beq_toListBytes]
 | agg ks =>
  simp only[zwq] at h
  unfold ze6 at h
  split at h
  ·obtain⟨A,rfl,hA⟩:=ha.agg_inv
   obtain⟨B,rfl,hB⟩:=hb.agg_inv
   have h':=zbm3 h hA hB
   have hsym:∀ {ks:List FK} {xs ys:List V},zlz ks xs ys=some true→zlz ks ys xs=some true:=by
    intro ks
    induction ks with
    | nil=>intro xs ys hq;cases xs <;> cases ys <;> simp_all [zlz]
    | cons k ks ih =>
     intro xs ys hq
     cases xs <;> cases ys <;> simp only[zlz] at hq <;> first | (cases hq;done) | skip
     rename_i x xs y ys
     split at hq
     ·rename_i hq1
      have:eqK k y x=some true:=by
       cases k <;> cases x <;> cases y <;> simp only[eqK] at hq1 <;> first | (cases hq1;done) | skip
       ·simp at hq1;simp[eqK,hq1]
       ·split at hq1
        ·rename_i hk;subst hk;simp at hq1;simp[eqK,hq1]
        ·cases hq1
       ·simp at hq1;simp[eqK,hq1]
      simp only[zlz,this]
      exact ih hq
     ·cases hq
     ·cases hq
   obtain⟨q1,q2⟩:=zbm2 (hsym h') n
   simp only[Array.length_toList] at q1
   simp only[Instr.sameBits,q1,beq_self_eq_true,Bool.true_and]
   exact q2
  ·cases h
theorem zbqs (kk:KK) (k:V):∀ (es:List (V × V)) (i:Nat),zj8 kk k es=some (some i)→∃ e,es[i]? = some e∧zwq kk k e.1=some true
 | [],i,h=>by simp[zj8] at h
 | e :: es,i,h=>by
  simp only[zj8] at h
  split at h
  ·rename_i hq;cases h;exact⟨e,rfl,hq⟩
  ·split at h
   ·rename_i j hj;cases h;obtain⟨e',h1,h2⟩:=zbqs kk k es j hj;exact⟨e',by simpa using h1,h2⟩
   ·cases h
   ·cases h
  ·cases h
theorem zqj {r:Nat} {E E2:Array MapEntry} {c c2:Nat} (h:w.heap[r]? = some (.map E c)):(setObj r (.map E2 c2)).run P w = .ok () { w with heap:=w.heap.setIfInBounds r (.map E2 c2) } := by
 simp[setObj,Sem.run,h]
theorem z5u (h:Rel N w₀ ρ H w) {b:Nat} {es es':List (V × V)} (hb:H.get b=some (.map true es)) {L:Loc} (hL:ρ b=some L) {E':Array MapEntry} {c':Nat} (h0:L.off=0) (hN:N≤L.blk) (hB:Born E' c')
  (h1:LRel ρ (es'.map (·.1)) (E'.toList.map (·.key))) (h2:LRel ρ (es'.map (·.2)) (E'.toList.map (·.val))) (hlt:L.blk < w.heap.size) :
  Rel N w₀ ρ (H.set b (some (.map true es'))) { w with heap:=w.heap.setIfInBounds L.blk (.map E' c') } ∧ Ext ρ H w ρ (H.set b (some (.map true es'))) { w with heap:=w.heap.setIfInBounds L.blk (.map E' c') } := by
 have hold:∀ k,k≠L.blk→({ w with heap:=w.heap.setIfInBounds L.blk (.map E' c') }:World).heap[k]? = w.heap[k]? := fun k hk=>by
  show (w.heap.setIfInBounds L.blk _)[k]? = _
  exact Array.getElem?_setIfInBounds_ne (fun e=>hk e.symm)
 have hnew:({ w with heap:=w.heap.setIfInBounds L.blk (.map E' c') }:World).heap[L.blk]? = some (.map E' c'):=by
  show (w.heap.setIfInBounds L.blk _)[L.blk]? = _
  simp[Array.getElem?_setIfInBounds,hlt]
 refine⟨h.put hb hL hN _ rfl rfl rfl (by simp) hold ⟨h0,E',c',hnew,fun _=>⟨hN,hB⟩,h1,h2⟩,zbvd h hb hL _ hold (by simp)⟩
theorem zbi6 {α β:Type} (g:α→β) (f:α→α) (x:β) (h:∀ e,g (f e)=x) (l:List α) (i:Nat):(l.modify i f).map g=(l.map g).set i x:=by
 apply List.ext_getElem?
 intro j
 simp only[List.getElem?_map,List.getElem?_modify,List.getElem?_set,List.length_map]
 by_cases hj:i=j
 ·subst hj
  by_cases hl:i < l.length
  ·simp[hl,h]
  ·simp[hl,List.getElem?_eq_none (Nat.le_of_not_lt hl)]
 ·simp[hj]
theorem zbqt {α β:Type} (f:α→β) (l:List α) (i:Nat) (x:α):(l.set i x).map f=(l.map f).set i (f x):=by
 rw[List.map_set]
theorem zbqu {E:Array MapEntry} {c:Nat} (h:Born E c) (i:Nat) (f:MapEntry→MapEntry) (hf:∀ e,(f e).born=e.born):Born (E.modify i f) c:=by
 have hm:(E.modify i f).toList.map (·.born)=E.toList.map (·.born):=by
  rw[Array.toList_modify]
  apply List.ext_getElem?
  intro j
  simp only[List.getElem?_map,List.getElem?_modify]
  by_cases hj:i=j
  ·subst hj;cases E.toList[i]? <;> simp[hf]
  ·simp[hj]
 refine⟨?_,fun e he=>?_⟩
 ·have:=List.pairwise_map.2 h.1
  rw[← hm] at this
  exact List.pairwise_map.1 this
 ·have:e.born∈E.toList.map (·.born):=by rw[← hm];exact List.mem_map_of_mem he
  obtain⟨e2,h2,h3⟩:=List.mem_map.1 this
  rw[← h3];exact h.2 e2 h2
theorem zbwm {E:Array MapEntry} {c:Nat} (h:Born E c) (e:MapEntry) (he:e.born=c):Born (E.push e) (c + 1):=by
 refine⟨?_,fun x hx=>?_⟩
 ·rw[Array.toList_push]
  refine List.pairwise_append.2 ⟨h.1,by simp,fun a ha b hb=>?_⟩
  simp only[List.mem_singleton] at hb;subst hb
  rw[he];exact h.2 a ha
 ·rw[Array.toList_push,List.mem_append] at hx
  rcases hx with hx | hx
  ·have:=h.2 x hx;omega
  ·simp only[List.mem_singleton] at hx;subst hx;omega
theorem zbt1 {E E':Array MapEntry} {c i:Nat} (h:Born E c) (he:E'.toList=E.toList.eraseIdx i):Born E' c:=by
 have hs:List.Sublist (E.toList.eraseIdx i) E.toList:=List.eraseIdx_sublist _ _
 refine⟨?_,fun e hm=>?_⟩
 ·rw[he];exact h.1.sublist hs
 ·rw[he] at hm;exact h.2 e (hs.subset hm)
theorem zbd4 (h:Rel N w₀ ρ H w) {kk:KK} {m k v m' k' v' r:V} {H':Heap} {t kt et:TypeId} (hu:P.underlying t=some (.map kt et)) (hf:z9w P kt=some kk)
  (hl:zgt kk m k v H=some (r,H')) (hm:VRel ρ m m') (hk:VRel ρ k k') (hv:VRel ρ v v') :
  r=undef∧∃ w',(Instr.mapUpdate t m' k' v').run P w = .ok () w'∧Rel N w₀ ρ H' w'∧Ext ρ H w ρ H' w':=by
 unfold zgt at hl
 split at hl
 ·rename_i hcond
  simp only[Bool.and_eq_true] at hcond
  have hck:=fun em=>z5r hf hk hcond.1.1 em w
  split at hl
  ·rename_i b
   split at hl
   ·rename_i es hb
    have hm2:∃ L,ρ b=some L∧m' = .map (some L.blk):=by cases hm;exact⟨_,by assumption,rfl⟩
    obtain⟨L,hL,rfl⟩:=hm2
    obtain⟨E,clk,h1,hN,h0,h2,h3⟩:=h.map hb hL
    have hlt:=h.lt hb hL
    split at hl
    ·rename_i i hi
     cases hl
     have hfk:=zpb hf hk es E.toList (some i) h2 hi w
     have hlt2:=zbd1 kk k es i hi
     have hlE:i < E.size:=by have:=h2.length;simp at this;omega
     obtain⟨e,he,hq⟩:=zbqs kk k es i hi
     have hke:VRel ρ e.1 E[i].key:=by
      obtain⟨x',hx',hrel⟩:=h2.get i e.1 (by simp[he])
      have:E[i].key=x':=by simpa[hlE] using hx'
      rw[this];exact hrel
     have hstay:(Instr.keyThatStays E[i].key k').run P w = .ok k' w:=by
      have:Instr.sameBits 10000 E[i].key k'=true:=zbt0 hq hk hke 9999
      simp[Instr.keyThatStays,this]
     have hbind:(some i).bind (fun j=>(E.toList[j]?).map fun e=>(j,e.val))=some (i,E[i].val):=by simp[hlE]
     rw[hbind] at hfk
     obtain⟨g1,g2⟩:=z5u h hb hL (es':=es.set i (k,v)) (E':=E.modify i fun e=>{ e with key:=k',val:=v' }) (c':=clk) h0 (hN rfl).1 (zbqu (hN rfl).2 _ _ fun _=>rfl)
      (by rw[zbqt,Array.toList_modify,zbi6 _ _ k' (fun _=>rfl)];exact h2.set hk i)
      (by rw[zbqt,Array.toList_modify,zbi6 _ _ v' (fun _=>rfl)];exact h3.set hv i) hlt
     refine⟨rfl,_,?_,g1,g2⟩
     have hei:E[i]? = some E[i]:=by simp[hlE]
     simp[Instr.mapUpdate,run_underlying hu,zhn h1,hck,hfk,hei,hstay,zqj h1]
    ·rename_i hi
     cases hl
     have hfk:=zpb hf hk es E.toList none h2 hi w
     obtain⟨g1,g2⟩:=z5u h hb hL (es':=es ++ [(k,v)]) (E':=E.push { key:=k',val:=v',born:=clk }) (c':=clk + 1) h0 (hN rfl).1 (zbwm (hN rfl).2 _ rfl)
      (by simpa using h2.append (.cons hk .nil)) (by simpa using h3.append (.cons hv .nil)) hlt
     refine⟨rfl,_,?_,g1,g2⟩
     simp[Instr.mapUpdate,run_underlying hu,zhn h1,hck,hfk,zqj h1]
    ·cases hl
   ·cases hl
  ·cases hl
 ·cases hl
theorem zqk {α β:Type} (f:α→β):∀ (l:List α) (i:Nat),(l.eraseIdx i).map f=(l.map f).eraseIdx i
 | [],i=>by simp
 | x :: l,0=>by simp
 | x :: l,i + 1=>by simp[zqk f l i]
theorem LRel.eraseIdx {l l':List V} (h:LRel ρ l l'):∀ n,LRel ρ (l.eraseIdx n) (l'.eraseIdx n):=by
 induction h with
 | nil=>intro n;simp;exact .nil
 | cons h g ih=>intro n;cases n with
  | zero=>simpa using g
  | succ n=>simp;exact .cons h (ih n)
theorem zbqv (h:Rel N w₀ ρ H w) {b:Nat} {es:List (V × V)} (hb:H.get b=some (.map true es)) {L:Loc} (hL:ρ b=some L) {E:Array MapEntry} {c:Nat} (h1:w.heap[L.blk]? = some (.map E c)) :
  ({ w with heap:=w.heap.setIfInBounds L.blk (.map E c) }:World)=w:=by
 have:w.heap.setIfInBounds L.blk (.map E c)=w.heap:=by
  apply Array.ext_getElem?
  intro k
  by_cases hk:k=L.blk
  ·subst hk;rw[h1];have:=h.lt hb hL;simp[Array.getElem?_setIfInBounds,this]
  ·exact Array.getElem?_setIfInBounds_ne (fun e=>hk e.symm)
 rw[this]
theorem zbod (h:Rel N w₀ ρ H w) {kk:KK} {m k m' k' r:V} {H':Heap} {t u ty kt et:TypeId} (hu:P.underlying t=some (.map kt et)) (hf:z9w P kt=some kk)
  (hl:zbtj kk m k H=some (r,H')) (hm:VRel ρ m m') (hk:VRel ρ k k') :
  r=undef∧∃ w',(Builtin.delete_ #[t,u] ty #[m',k']).run P w = .ok (.tuple #[]) w'∧Rel N w₀ ρ H' w'∧Ext ρ H w ρ H' w':=by
 unfold zbtj at hl
 split at hl
 ·rename_i hcond
  have hck:=fun em=>z5r hf hk hcond em w
  split at hl
  ·cases hl
   have:m' = .map none:=by cases hm;rfl
   subst this
   exact⟨rfl,w,by simp[Builtin.delete_,run_underlying hu,hck],h,.refl _ _ _⟩
  ·rename_i b
   split at hl
   ·rename_i es hb
    have hm2:∃ L,ρ b=some L∧m' = .map (some L.blk):=by cases hm;exact⟨_,by assumption,rfl⟩
    obtain⟨L,hL,rfl⟩:=hm2
    obtain⟨E,clk,h1,hN,h0,h2,h3⟩:=h.map hb hL
    have hlt:=h.lt hb hL
    split at hl
    ·rename_i i hi
     cases hl
     have hfk:=zpb hf hk es E.toList (some i) h2 hi w
     have hlt2:=zbd1 kk k es i hi
     have hlE:i < E.size:=by have:=h2.length;simp at this;omega
     have hbind:(some i).bind (fun j=>(E.toList[j]?).map fun e=>(j,e.val))=some (i,E[i].val):=by simp[hlE]
     rw[hbind] at hfk
     have hto:(E.eraseIdxIfInBounds i).toList=E.toList.eraseIdx i:=by simp[Array.eraseIdxIfInBounds,hlE]
     obtain⟨g1,g2⟩:=z5u h hb hL (es':=es.eraseIdx i) (E':=E.eraseIdxIfInBounds i) (c':=clk) h0 (hN rfl).1 (zbt1 (hN rfl).2 hto)
      (by rw[hto,zqk,zqk];exact h2.eraseIdx i) (by rw[hto,zqk,zqk];exact h3.eraseIdx i) hlt
     refine⟨rfl,_,?_,g1,g2⟩
     simp[Builtin.delete_,run_underlying hu,zhn h1,hck,hfk,zqj h1]
    ·rename_i hi
     cases hl
     have hfk:=zpb hf hk es E.toList none h2 hi w
     refine⟨rfl,w,?_,h,.refl _ _ _⟩
     simp[Builtin.delete_,run_underlying hu,zhn h1,hck,hfk,zqj h1,zbqv h hb hL h1]
    ·cases hl
   ·cases hl
  ·cases hl
 ·cases hl
end Go.AM

/- Operations that make and write memory: all of them. -/
namespace Go.AM
open Go.RowKit (Below)
variable {P:Program} {N:Nat} {w₀:World} {ρ:Ren} {H:Heap} {w:World}
def zb3d (nx:Next) (r':V):Prop:=nx = .value r'∨(nx = .skip∧r'=undef)
theorem z1i {r:V} {H':Heap} {w':World} (h:Rel N w₀ ρ H' w') (g:Ext ρ H w ρ H' w') (hr:r=undef):zz1 N w₀ ρ H w r H' undef w':=by
 subst hr;exact⟨ρ,.undef _,h,g⟩
theorem zbwn (h:Rel N w₀ ρ H w) {e c:Operand→V} (hr:∀ z,VRel ρ (e z) (c z)) (o:Oper) {r:V} {H':Heap} (hl:actM P e o.op H=some (r,H')) :
  ∃ nx r' w',(execOp c o).run P w = .ok nx w'∧zb3d nx r'∧zz1 N w₀ ρ H w r H' r' w':=by
 obtain⟨dst,op,ty,pos,after,guard⟩:=o
 simp only at hl
 cases op <;> simp only[actM] at hl <;> first | exact (z1 hl).elim | skip
 case alloc el =>
  cases hz:zgn P el with
  | none=>simp only[hz] at hl;exact (z1 hl).elim
  | some z =>
   simp only[hz] at hl
   obtain⟨r',w',g1,g2⟩:=zbtu (P:=P) h hz hl
   exact⟨.value r',r',w',by simp[execOp,g1],.inl rfl,g2⟩
 case box el x =>
  obtain⟨r',w',g1,g2⟩:=zbtv (P:=P) (t:=el) h (hr x) hl
  exact⟨.value r',r',w',by simp[execOp,g1],.inl rfl,g2⟩
 case buildSlice t len parts =>
  generalize hu:P.underlying t=d at hl
  split at hl
  all_goals first | exact (z1 hl).elim | skip
  rename_i el
  generalize hs:zfz P el=s at hl
  generalize hz:zgn P el=z at hl
  split at hl
  all_goals first | exact (z1 hl).elim | skip
  rename_i n z
  split at hl
  all_goals first | exact (z1 hl).elim | skip
  rename_i hc
  obtain⟨r',w',g1,g2⟩:=zbtw (P:=P) h hr hu hs hz hc.1 hc.2.1 hc.2.2 hl
  exact⟨.value r',r',w',by simp[execOp,g1],.inl rfl,g2⟩
 case store t a x =>
  cases hk:tk P t with
  | none=>simp only[hk] at hl;exact (z1 hl).elim
  | some k =>
   cases k with
   | one =>
    simp only[hk] at hl
    obtain⟨g0,w',g1,g2,g3⟩:=zbwf (P:=P) h hk hl (hr a) (hr x)
    exact⟨.skip,undef,w',by simp[execOp,g1],.inr ⟨rfl,rfl⟩,z1i g2 g3 g0⟩
   | agg n =>
    simp only[hk] at hl
    obtain⟨g0,w',g1,g2,g3⟩:=zbwg (P:=P) h hk hl (hr a) (hr x)
    exact⟨.skip,undef,w',by simp[execOp,g1],.inr ⟨rfl,rfl⟩,z1i g2 g3 g0⟩
 case convert src dst x =>
  generalize hs:P.underlying src=s at hl
  generalize hd:P.underlying dst=d at hl
  split at hl
  all_goals first | exact (z1 hl).elim | skip
  rename_i el
  generalize hel:P.underlying el=ed at hl
  split at hl
  all_goals first | exact (z1 hl).elim | skip
  obtain⟨s,r',w',g0,g1,g2⟩:=zbwk (P:=P) (e:=el) h (hr x) hl
  refine⟨.value r',r',w',?_,.inl rfl,g2⟩
  simp[execOp,convert,run_underlying hs,run_underlying hd,g0,run_underlying hel,g1]
 case insert t m k v =>
  generalize hu:P.underlying t=d at hl
  split at hl
  all_goals first | exact (z1 hl).elim | skip
  rename_i kt et
  generalize hkk:z9w P kt=kk at hl
  split at hl
  all_goals first | exact (z1 hl).elim | skip
  obtain⟨g0,w',g1,g2,g3⟩:=zbd4 (P:=P) h hu hkk hl (hr m) (hr k) (hr v)
  exact⟨.skip,undef,w',by simp[execOp,g1],.inr ⟨rfl,rfl⟩,z1i g2 g3 g0⟩
 case makeMap t reserve =>
  cases reserve with
  | none =>
   obtain⟨r',w',g1,g2,g3⟩:=zbhj (P:=P) h hl
   refine⟨.value r',r',w',?_,.inl rfl,g3⟩
   simp only[execOp,Instr.makeMap,Option.map_none,Sem.run_bind,Sem.run_pure,Result.andThen_ok,g1,g2]
  | some hint =>
   simp only at hl
   generalize hu:P.underlying t=d at hl
   generalize hh:e hint=q at hl
   split at hl
   all_goals first | exact (z1 hl).elim | skip
   have hq:=hr hint
   rw[hh] at hq
   obtain⟨r',w',g1,g2,g3⟩:=zbhj (P:=P) h hl
   refine⟨.value r',r',w',?_,.inl rfl,g3⟩
   simp only[execOp,Instr.makeMap,Option.map_some,Sem.run_bind,Sem.run_pure,Result.andThen_ok,run_underlying hu,hq.int_inv,asInt,asIntOf,g1,g2]
 case makeSlice t l k =>
  generalize hu:P.underlying t=d at hl
  split at hl
  all_goals first | exact (z1 hl).elim | skip
  rename_i el
  generalize hs:zfz P el=s at hl
  generalize hb:zod P el=b at hl
  generalize hz:zgn P el=z at hl
  split at hl
  all_goals first | exact (z1 hl).elim | skip
  split at hl
  all_goals first | exact (z1 hl).elim | skip
  rename_i hc
  obtain⟨r',w',g1,g2⟩:=zbqr (P:=P) h hu hs hb hz hc.1 hc.2 (hr l) (hr k) hl
  exact⟨.value r',r',w',by simp[execOp,g1],.inl rfl,g2⟩
 case mapUpdate t m k v =>
  generalize hu:P.underlying t=d at hl
  split at hl
  all_goals first | exact (z1 hl).elim | skip
  rename_i kt et
  generalize hkk:z9w P kt=kk at hl
  split at hl
  all_goals first | exact (z1 hl).elim | skip
  obtain⟨g0,w',g1,g2,g3⟩:=zbd4 (P:=P) h hu hkk hl (hr m) (hr k) (hr v)
  exact⟨.skip,undef,w',by simp[execOp,g1],.inr ⟨rfl,rfl⟩,z1i g2 g3 g0⟩
 case call cl =>
  obtain⟨callee,args,argTypes⟩:=cl
  simp only at hl
  cases callee <;> simp only at hl <;> first | exact (z1 hl).elim | skip
  rename_i b
  obtain⟨args⟩:=args
  obtain⟨ts⟩:=argTypes
  simp only[actB] at hl
  split at hl
  all_goals first | exact (z1 hl).elim | skip
  ·rename_i s x t u
   generalize hu:P.underlying t=d at hl
   split at hl
   all_goals first | exact (z1 hl).elim | skip
   rename_i el
   generalize hs:zfz P el=sz at hl
   generalize hb:zod P el=by_ at hl
   generalize hz:zgn P el=z at hl
   split at hl
   all_goals first | exact (z1 hl).elim | skip
   split at hl
   all_goals first | exact (z1 hl).elim | skip
   rename_i hc
   generalize hd:P.underlying u=du at hl
   split at hl
   all_goals first | exact (z1 hl).elim | skip
   ·obtain⟨r',w',g1,g2⟩:=zbtx (P:=P) (ty:=ty) h hu hd hs hb hz hc.1 hc.2.1 hc.2.2 (hr s) (hr x) hl
    exact⟨.value r',r',w',by simp[execOp,resolve,invoke,builtin,g1],.inl rfl,g2⟩
   ·split at hl
    all_goals first | exact (z1 hl).elim | skip
    rename_i h1
    obtain⟨rfl,rfl⟩:=h1
    obtain⟨r',w',g1,g2⟩:=zbty (P:=P) (ty:=ty) h hu hd hs hb hz hc.1 (hr s) (hr x) hl
    exact⟨.value r',r',w',by simp[execOp,resolve,invoke,builtin,g1],.inl rfl,g2⟩
   ·obtain⟨r',w',g1,g2⟩:=zbtz (P:=P) (ty:=ty) h hu hd hs hb hz hc.1 hc.2.1 hc.2.2 (hr s) (hr x) hl
    exact⟨.value r',r',w',by simp[execOp,resolve,invoke,builtin,g1],.inl rfl,g2⟩
  ·rename_i d x t u
   generalize hu:P.underlying t=dt at hl
   split at hl
   all_goals first | exact (z1 hl).elim | skip
   rename_i el
   generalize hs:zfz P el=sz at hl
   split at hl
   all_goals first | exact (z1 hl).elim | skip
   obtain⟨r',w',g1,g2⟩:=zbwl (P:=P) (u:=u) (ty:=ty) h hu hs (hr d) (hr x) hl
   exact⟨.value r',r',w',by simp[execOp,resolve,invoke,builtin,g1],.inl rfl,g2⟩
  ·rename_i m k t u
   generalize hu:P.underlying t=dt at hl
   split at hl
   all_goals first | exact (z1 hl).elim | skip
   rename_i kt et
   generalize hkk:z9w P kt=kk at hl
   split at hl
   all_goals first | exact (z1 hl).elim | skip
   obtain⟨g0,w',g1,g2,g3⟩:=zbod (P:=P) (u:=u) (ty:=ty) h hu hkk hl (hr m) (hr k)
   exact⟨.value undef,undef,w',by simp[execOp,resolve,invoke,builtin,g1,undef],.inl rfl,z1i g2 g3 g0⟩
theorem zbyn (hN:N≤w.heap.size) {e c:Operand→V} (hr:∀ z,VRel ρ (e z) (c z)) (o:Oper) (hmk:isMk P o.op=true) {v:V} {K:Heap} (hl:actM P e o.op Heap.none0=some (v,K)) :
  ∃ x,K=Heap.one x∧∃ r' w',(execOp c o).run P w = .ok (.value r') w'∧MkOK N ρ w v x r' w':=by
 obtain⟨dst,op,ty,pos,after,guard⟩:=o
 simp only at hl hmk
 cases op <;> simp only[isMk] at hmk <;> first | (cases hmk;done) | skip
 all_goals simp only[actM] at hl
 case alloc el =>
  cases hz:zgn P el with
  | none=>simp only[hz] at hl;exact (z1 hl).elim
  | some z =>
   simp only[hz] at hl
   obtain⟨x,hx,r',w',g1,g2⟩:=zbve (P:=P) (ρ:=ρ) hN hz hl
   exact⟨x,hx,r',w',by simp[execOp,g1],g2⟩
 case box el y =>
  obtain⟨x,hx,r',w',g1,g2⟩:=zbvf (P:=P) (t:=el) hN (hr y) hl
  exact⟨x,hx,r',w',by simp[execOp,g1],g2⟩
 case buildSlice t len parts =>
  generalize hu:P.underlying t=d at hl
  split at hl
  all_goals first | exact (z1 hl).elim | skip
  rename_i el
  generalize hs:zfz P el=s at hl
  generalize hz:zgn P el=z at hl
  split at hl
  all_goals first | exact (z1 hl).elim | skip
  rename_i n z
  split at hl
  all_goals first | exact (z1 hl).elim | skip
  rename_i hc
  obtain⟨x,hx,r',w',g1,g2⟩:=zbvh (P:=P) (t:=t) hN hr hu hs hz hc.1 hc.2.1 hc.2.2 hl
  exact⟨x,hx,r',w',by simp[execOp,g1],g2⟩
 case convert src dst y =>
  generalize hs:P.underlying src=s at hl
  generalize hd:P.underlying dst=d at hl
  split at hl
  all_goals first | exact (z1 hl).elim | skip
  rename_i el
  generalize hel:P.underlying el=ed at hl
  split at hl
  all_goals first | exact (z1 hl).elim | skip
  obtain⟨x,hx,s,r',w',g0,g1,g2⟩:=zbyi (P:=P) (e:=el) hN (hr y) hl
  refine⟨x,hx,r',w',?_,g2⟩
  simp[execOp,convert,run_underlying hs,run_underlying hd,g0,run_underlying hel,g1]
 case makeMap t reserve =>
  cases reserve with
  | none =>
   simp only[zwr] at hl;cases hl
   refine⟨.map true [],rfl,.map (some w.heap.size),w.alloc (.map #[] 0),?_,zbqq hN⟩
   simp only[execOp,Instr.makeMap,Option.map_none,Sem.run_bind,Sem.run_pure,Result.andThen_ok,run_newObj];rfl
  | some hint =>
   simp only at hl
   generalize hu:P.underlying t=d at hl
   generalize hh:e hint=q at hl
   split at hl
   all_goals first | exact (z1 hl).elim | skip
   have hq:=hr hint
   rw[hh] at hq
   simp only[zwr] at hl;cases hl
   refine⟨.map true [],rfl,.map (some w.heap.size),w.alloc (.map #[] 0),?_,zbqq hN⟩
   simp only[execOp,Instr.makeMap,Option.map_some,Sem.run_bind,Sem.run_pure,Result.andThen_ok,run_underlying hu,hq.int_inv,asInt,asIntOf,run_newObj];rfl
 case makeSlice t l k =>
  generalize hu:P.underlying t=d at hl
  split at hl
  all_goals first | exact (z1 hl).elim | skip
  rename_i el
  generalize hs:zfz P el=s at hl
  generalize hb:zod P el=b at hl
  generalize hz:zgn P el=z at hl
  split at hl
  all_goals first | exact (z1 hl).elim | skip
  split at hl
  all_goals first | exact (z1 hl).elim | skip
  rename_i hc
  obtain⟨x,hx,r',w',g1,g2⟩:=zbqo (P:=P) (t:=t) hN hu hs hb hz hc.1 hc.2 (hr l) (hr k) hl
  exact⟨x,hx,r',w',by simp[execOp,g1],g2⟩
def SimF (P:Program) (f:FuncId) (F:List V→M V):Prop :=
 ∀ (N:Nat) (w₀:World) (ρ:Ren) (H:Heap) (w:World) (args args':List V) (r:V) (H':Heap),P.globals.size≤N→Rel N w₀ ρ H w→LRel ρ args args'→F args H=some (r,H') →
  Calls P f args'.toArray w fun e w'=>∃ r',e = .returned r'∧zz1 N w₀ ρ H w r H' r' w'
def zw1 (P:Program) (f:FuncId):Bool:=match P.funcs[f]? with
 | some fn=>fn.name != "runtime.NumGoroutine" && fn.body.isSome
 | none=>false
theorem zbd5 {f:FuncId} (hp:zw1 P f=true) (args:Array V) (w:World):(callFunc f args).run P w = .ok (.enter f args) w:=by
 unfold zw1 at hp
 split at hp
 ·rename_i fn hfn
  simp only[Bool.and_eq_true,bne_iff_ne,ne_eq,Option.isSome_iff_exists] at hp
  obtain⟨h1,c,h2⟩:=hp
  simp[callFunc,hfn,h1,h2]
 ·cases hp
def zd9 (P:Program) (σ:zv):Prop:=∀ f args H r H',σ f args H=some (r,H')→zw1 P f=true∧SimF P f (σ f)
theorem zbco {en:Env} {c:Operand→V} (hr:∀ z,VRel ρ (evO P en z) (c z)):∀ l:List Operand,LRel ρ (zbcf P en l) (l.map c)
 | [] => .nil
 | x :: xs => .cons (hr x) (zbco hr xs)
theorem zbt2 {σ:zv} (hσ:zd9 P σ) (hG:P.globals.size≤N) (h:Rel N w₀ ρ H w) {f f':V} {args args':List V} {r:V} {H':Heap} (hf:VRel ρ f f') (ha:LRel ρ args args') (hl:zn4 σ f args H=some (r,H')) (c:Call) (cv:Operand→V) (fo:Operand) (ty:TypeId)
  (hc:c.callee = .value fo) (hfo:cv fo=f') (hargs:(c.args.map cv).toList=args') :
  ∃ g gargs,((do let d ← resolve cv c ty;invoke d.target d.args):Sem Next).run P w = .ok (.enter g gargs) w∧Calls P g gargs w fun e w'=>∃ r',e = .returned r'∧zz1 N w₀ ρ H w r H' r' w':=by
 unfold zn4 at hl
 split at hl
 ·rename_i g x y
  have hfi:∃ x' y',f' = .func (.func g) x' y'∧LRel ρ x.toList x'.toList∧LRel ρ y.toList y'.toList:=by
   cases hf;exact⟨_,_,rfl,arel (by assumption) (by assumption),arel (by assumption) (by assumption)⟩
  obtain⟨x',y',rfl,hx,hy⟩:=hfi
  obtain⟨hp,hs⟩:=hσ _ _ _ _ _ hl
  have hall:LRel ρ (x.toList ++ (args ++ y.toList)) (x'.toList ++ (args' ++ y'.toList)):=hx.append (ha.append hy)
  refine⟨g,(x'.toList ++ (args' ++ y'.toList)).toArray,?_,hs N w₀ ρ H w _ _ r H' hG h hall hl⟩
  have harr:c.args.map cv=args'.toArray:=by apply Array.ext';simpa using hargs
  simp only[resolve,hc,hfo,harr,Deferred.ofValue,Sem.run_bind,Sem.run_pure,Result.andThen_ok,invoke]
  rw[zbd5 hp]
  congr 2
  apply Array.ext'
  simp
 ·exact (z1 hl).elim
theorem zbt3 {t:TypeId} {name:String} {f:FuncId} (h:zbye P t name=some f) (k:Nat) (v:V) (w:World):(method (k + 1) t v name).run P w = .ok (f,v) w:=by
 unfold zbye at h
 split at h
 ·rename_i i u hi hu
  split at h
  ·rename_i m hm
   split at h
   ·rename_i f' pr hf
    split at h
    ·rename_i hc
     cases h
     simp only[Bool.and_eq_true,beq_iff_eq] at hc
     obtain⟨h1,h2⟩:=hc
     have hp:m.path.toList=[]:=by simpa using h1
     have ht:(typeInfo t).run P w = .ok i w:=by simp[typeInfo,hi]
     simp only[method,Sem.run_bind,ht,Result.andThen_ok,hm,hp,follow,Sem.run_pure,hf,receiverAt,run_underlying hu,Place.get]
     subst h2
     cases u <;> simp[Place.get,zbyd]
    ·cases h
   ·cases h
  ·cases h
 ·cases h
theorem zbwo {σ:zv} (hσ:zd9 P σ) (hG:P.globals.size≤N) (h:Rel N w₀ ρ H w) {v v':V} {name:String} {args args':List V} {r:V} {H':Heap} (hv:VRel ρ v v') (ha:LRel ρ args args') (hl:invM P σ v name args H=some (r,H')) (c:Call) (cv:Operand→V) (fo:Operand) (ty:TypeId)
  (hc:c.callee = .invoke fo name) (hfo:cv fo=v') (hargs:(c.args.map cv).toList=args') :
  ∃ g gargs,((do let d ← resolve cv c ty;invoke d.target d.args):Sem Next).run P w = .ok (.enter g gargs) w∧Calls P g gargs w fun e w'=>∃ r',e = .returned r'∧zz1 N w₀ ρ H w r H' r' w':=by
 unfold invM at hl
 cases hi:invG P v name with
 | none=>rw[hi] at hl;exact (z1 (H:=H) hl).elim
 | some q =>
  rw[hi] at hl
  unfold invG at hi
  split at hi
  ·rename_i t x
   have hx:∃ x',v' = .iface t x'∧VRel ρ x x':=by cases hv;exact⟨_,rfl,by assumption⟩
   obtain⟨x',rfl,hx⟩:=hx
   obtain⟨g,hg,rfl⟩:=Option.map_eq_some_iff.1 hi
   change σ g (x :: args) H=some (r,H') at hl
   obtain⟨hp,hs⟩:=hσ _ _ _ _ _ hl
   refine⟨g,(x' :: args').toArray,?_,hs N w₀ ρ H w _ _ r H' hG h (.cons hx ha) hl⟩
   have harr:c.args.map cv=args'.toArray:=by apply Array.ext';simpa using hargs
   simp only[resolve,hc,hfo,harr,Sem.run_bind,Sem.run_pure,Result.andThen_ok,invoke]
   have h0:(#[Value.iface t x'] ++ args'.toArray)[0]? = some (.iface t x'):=by simp
   have h1:(#[Value.iface t x'] ++ args'.toArray).extract 1 (#[Value.iface t x'] ++ args'.toArray).size=args'.toArray:=by apply Array.ext';simp
   have hpr:(program).run P w = .ok P w:=rfl
   simp only[h0,h1,callMethod,Sem.run_bind,hpr,Result.andThen_ok]
   rw[show P.types.size + Made.depth=(P.types.size + 99) + 1 from rfl,zbt3 hg]
   simp only[Result.andThen_ok]
   rw[zbd5 hp]
   congr 2
   apply Array.ext'
   simp
  ·cases hi
end Go.AM
