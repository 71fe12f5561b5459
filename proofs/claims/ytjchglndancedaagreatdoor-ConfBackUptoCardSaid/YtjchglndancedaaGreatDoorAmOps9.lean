import Derived.Test.YtjchglndancedaaGreatDoorAmOps7
set_option linter.all false
/- Operations that make and write memory: the theorem. -/
namespace Go.AM
open Go.RowKit (Below)
variable {P:Program} {N:Nat} {w₀:World} {ρ:Ren} {H:Heap} {w:World}
theorem z9m (h:Rel N w₀ ρ H w) {size len:Nat} {x x':V} {l:List V} (hx:VRel ρ x x') (hl:ze6 x=len) (hc:zbe H size x=some l) :
  l.length=len * size∧(Builtin.lenOf x').run P w = .ok len w∧∃ l',LRel ρ l l'∧∀ n,(Builtin.firstCells size len x').run P { w with drawn:=n } = .ok l'.toArray { w with drawn:=n } := by
 unfold zbe at hc
 split at hc
 ·cases hc
  obtain⟨_,_,rfl⟩:=hx.snil_inv
  simp only[ze6] at hl;subst hl
  exact⟨by simp,by simp[Builtin.lenOf],[],.nil,fun n=>by simp[Builtin.firstCells]⟩
 ·rename_i b o u ln cap
  simp only[ze6] at hl;subst hl
  obtain⟨L,co,ccap,ca,hL,rfl,ho,hln,_,_,hca,_⟩:=hx.slc_inv
  split at hc
  ·rename_i h0;cases hc;subst h0
   exact⟨by simp,by simp[Builtin.lenOf],[],.nil,fun n=>by simp[Builtin.firstCells,loadCells,loadCellsFrom]⟩
  ·rename_i h0
   have hco:co=L.off + o:=by rcases ho with ho | ho <;> omega
   subst hco
   obtain rfl:ca=⟨L.blk,L.off + o,none⟩:=hca.resolve_right (by omega)
   obtain⟨h1,l',h2,h3⟩:=h.cellsAt hc hL
   refine⟨h1,by simp[Builtin.lenOf],l',h2,fun n=>?_⟩
   simp only[Builtin.firstCells]
   have:=zit (P:=P) (w:={ w with drawn:=n }) (b:=L.blk) (o:=L.off + o) (l:=l') h3
   rw[← h2.length,h1] at this
   exact this
 ·cases hc
theorem zbl3 (h:Rel N w₀ ρ H w) {t u ty e q:TypeId} {size bytes:Nat} {z s s' x x' r:V} {H':Heap} (hu:P.underlying t=some (.slice e)) (hd:P.underlying u=some (.slice q))
  (hsz:zfk P e=some size) (hb:zmv P e=some bytes) (hz:zfw P e=some z) (hzs:z.cells.size=size) (h0:0 < size) (hb0:0 < bytes) (hs:VRel ρ s s') (hx:VRel ρ x x')
  (hm:zgm size bytes s x H=some (r,H')):∃ r' w',(Builtin.append_ #[t,u] ty #[s',x']).run P w = .ok r' w'∧zv2 N w₀ ρ H w r H' r' w':=by
 unfold zgm at hm
 split at hm
 ·rename_i a n c
  cases hcs:zbe H size (.slice a n c) with
  | some new =>
   rw[hcs] at hm
   obtain⟨h1,h2,new',h3,h4⟩:=z9m (P:=P) h hx rfl hcs
   exact z1d h hu hsz hb hz hzs h0 hb0 hs (zbq5 hu (.inl ⟨_,hd⟩) hsz hb hz hb0 h2 h4 h3) h1 hm
  | none =>
   rw[hcs] at hm
   unfold zwc at hm
   split at hm
   ·rename_i y len cap
    split at hm
    ·rename_i hn;cases hm;subst hn
     refine⟨s',w,?_,ρ,hs,h,.refl _ _ _⟩
     generalize hx2:x'=x2 at hx
     generalize hs2:s'=s2 at hs
     have hfw:(Builtin.lenOf x2).run P w = .ok 0 w∧(Builtin.firstCells size 0 x2).run P w = .ok (#[]:Array V) w:=by
      cases hx <;> exact⟨by simp[Builtin.lenOf],by simp[Builtin.firstCells,loadCells,loadCellsFrom]⟩
     cases hs with
     | snil=>exact z1c (new':=[]) hu (.inl ⟨_,hd⟩) (zdk hsz w) hfw.1 hfw.2 (Nat.le_refl _) rfl
     | slc b o u2 len cap L co ccap ca hL ho hl hc hss hca hmx=>exact z1c (new':=[]) hu (.inl ⟨_,hd⟩) (zdk hsz w) hfw.1 hfw.2 (by omega) rfl
    ·simp at hm
   ·cases hm
 ·cases hm
theorem zbam (s:ByteArray) (n:Nat):((s.extract 0 n).data.map fun b=>Value.int .u8 (b.toNat:Int)).toList=(zov s).take n:=by
 simp[zov,ByteArray.data_extract]
theorem zbl4 (h:Rel N w₀ ρ H w) {t u ty e:TypeId} {z s s' x x' r:V} {H':Heap} (hu:P.underlying t=some (.slice e)) (hd:P.underlying u=some .string)
  (hsz:zfk P e=some 1) (hb:zmv P e=some 1) (hz:zfw P e=some z) (hzs:z.cells.size=1) (hs:VRel ρ s s') (hx:VRel ρ x x')
  (hm:appS s x H=some (r,H')):∃ r' w',(Builtin.append_ #[t,u] ty #[s',x']).run P w = .ok r' w'∧zv2 N w₀ ρ H w r H' r' w':=by
 unfold appS at hm
 split at hm
 ·rename_i str
  rw[hx.string_inv]
  refine z1d h hu hsz hb hz hzs (by omega) (by omega) hs (zbq5 hu (.inr hd) hsz hb hz (by omega) (by simp[Builtin.lenOf]) (fun n=>?_) (z52 str)) (by rw[zwz];omega) hm
  simp only[Builtin.firstCells,Sem.run_pure]
  congr 1
  apply Array.ext'
  rw[zbam,List.take_of_length_le (by rw[zwz];exact Nat.le_refl _)]
 ·cases hm
theorem zbl5 (h:Rel N w₀ ρ H w) {t u ty e:TypeId} {k:IntKind} {size bytes:Nat} {z s s' x x' r:V} {H':Heap} (hu:P.underlying t=some (.slice e)) (hd:P.underlying u=some (.int k))
  (hsz:zfk P e=some size) (hb:zmv P e=some bytes) (hz:zfw P e=some z) (hzs:z.cells.size=size) (h0:0 < size) (hb0:0 < bytes) (hs:VRel ρ s s') (hx:VRel ρ x x')
  (hm:appZ size bytes z.cells.toList s x H=some (r,H')):∃ r' w',(Builtin.append_ #[t,u] ty #[s',x']).run P w = .ok r' w'∧zv2 N w₀ ρ H w r H' r' w':=by
 unfold appZ at hm
 split at hm
 ·rename_i k2 n
  split at hm
  ·rename_i hc
   obtain⟨hfl,hn0,hc1,hc2⟩:=hc
   have e1:=hx.int_inv;subst e1
   obtain⟨m,rfl⟩:∃ m:Nat,n=m:=⟨n.toNat,by omega⟩
   simp only[Int.toNat_natCast] at hm hc1 hc2
   have hzc:(Builtin.zeroCells z.cells m).toList=rep m z.cells.toList:=zbch z.cells m (by omega)
   exact z1d h hu hsz hb hz hzs h0 hb0 hs (zbq6 (new':=rep m z.cells.toList) hu hd hsz hb hz hb0 h0 hc1 hc2 (by rw[← hzc]) (zbg9 (z9l hfl) m)) (by rw[zuj];simp[hzs]) hm
  ·cases hm
 ·cases hm
theorem zbo3 (h:Rel N w₀ ρ H w) {t u ty e:TypeId} {size:Nat} {d d' x x' r:V} {H':Heap} (hu:P.underlying t=some (.slice e)) (hsz:zfk P e=some size) (hd:VRel ρ d d') (hx:VRel ρ x x')
  (hm:cpy size d x H=some (r,H')):∃ r' w',(Builtin.copy_ #[t,u] ty #[d',x']).run P w = .ok r' w'∧zv2 N w₀ ρ H w r H' r' w':=by
 unfold cpy at hm
 split at hm
 ·-- nil
   obtain⟨rfl,rfl,rfl⟩:=hd.snil_inv
   split at hm
   ·rename_i a n c
    cases hm
    refine⟨i64 0,w,?_,ρ,.int _ _,h,.refl _ _ _⟩
    generalize x'=x2 at hx
    cases hx <;> simp[Builtin.copy_,run_underlying hu,Builtin.lenOf,zdk hsz w,Builtin.firstCells,loadCells,loadCellsFrom,goInt]
   ·cases hm
    rw[hx.string_inv]
    exact⟨i64 0,w,by simp[Builtin.copy_,run_underlying hu,Builtin.lenOf,zdk hsz w,Builtin.firstCells,goInt],ρ,.int _ _,h,.refl _ _ _⟩
   ·cases hm
 ·rename_i b o u2 dlen dcap
  ·split at hm
   ·rename_i l hl
    split at hm
    ·rename_i cs hb
     split at hm
     ·rename_i hcond
      simp only[Bool.and_eq_true,decide_eq_true_eq,beq_iff_eq] at hcond
      obtain⟨⟨c1,c2⟩,c3⟩:=hcond
      cases hm
      obtain⟨L,co,ccap,ca,hL,rfl,ho,hlen,hcap,hss,hca,_⟩:=hd.slc_inv
      have hsrc:(Builtin.lenOf x').run P w = .ok (ze6 x) w∧∃ l',LRel ρ l l'∧(Builtin.firstCells size (Nat.min (ze6 x) dlen) x').run P w = .ok l'.toArray w:=by
       unfold zbqt at hl
       split at hl
       ·rename_i str
        cases hl
        rw[hx.string_inv]
        refine⟨by simp[Builtin.lenOf,ze6],(zov str).take (Nat.min (ze6 (.string str)) dlen),(z52 str).take _,?_⟩
        simp only[Builtin.firstCells,Sem.run_pure]
        congr 1
        apply Array.ext'
        rw[zbam]
       ·cases hl
        obtain⟨e1,_,rfl⟩:=hx.snil_inv
        exact⟨by simp[Builtin.lenOf,ze6,e1],[],.nil,by simp[Builtin.firstCells]⟩
       ·rename_i b' o' u' ln' cap'
        obtain⟨L',co',ccap',ca',hL',rfl,ho',hln',_,_,hca',_⟩:=hx.slc_inv
        obtain⟨q1,l',q2,q3⟩:=h.cellsAt hl hL'
        refine⟨by simp[Builtin.lenOf,ze6],l',q2,?_⟩
        simp only[Builtin.firstCells]
        rcases hca' with rfl | hz'
        rotate_left
        ·have hz:ln'=0:=by omega
         subst hz
         have hmin:Nat.min (ze6 (.slice (some ⟨b',o',some u'⟩) 0 cap')) dlen=0:=by simp[ze6]
         rw[hmin] at q1 ⊢
         have:l'=[]:=List.eq_nil_of_length_eq_zero (by rw[← q2.length,q1];simp)
         rw[this];simp[loadCells,loadCellsFrom]
        rcases ho' with ho' | ho'
        ·subst ho'
         have:=zit (P:=P) (b:=L'.blk) (o:=L'.off + o') (l:=l') q3
         rw[← q2.length,q1] at this;exact this
        ·have hz:ln'=0:=by omega
         subst hz
         have hmin:Nat.min (ze6 (.slice (some ⟨b',o',some u'⟩) 0 cap')) dlen=0:=by simp[ze6]
         rw[hmin] at q1 ⊢
         have:l'=[]:=List.eq_nil_of_length_eq_zero (by rw[← q2.length,q1];simp)
         rw[this];simp[loadCells,loadCellsFrom]
       ·cases hl
      obtain⟨hlen2,l',hrel,hfc⟩:=hsrc
      have hco:co=L.off + o∨l=[]:=by
       rcases ho with ho | ho
       ·exact .inl ho
       ·right;apply List.eq_nil_of_length_eq_zero;rw[c2];have:dlen=0:=by omega
        subst this;simp
      obtain⟨w',g1,g2,g3⟩:=z5z (P:=P) (o:=o) h hb hL (vs:=l) (vs':=l') (by omega) hrel (zzb hrel c1)
      have g1':(storeCells ca l').run P w = .ok () w':=by
       rcases hca with rfl | hz0
       rotate_left
       ·have hl0:l=[]:=by
         apply List.eq_nil_of_length_eq_zero;rw[c2];have:dlen=0:=by omega
         subst this;simp
        subst hl0;cases hrel;exact g1
       rcases hco with hco | hco
       ·rw[hco];exact g1
       ·subst hco;cases hrel;exact g1
      refine⟨i64 (Nat.min (ze6 x) dlen),w',?_,ρ,.int _ _,g2,g3⟩
      have hfc':=hfc
      simp only[Builtin.copy_,Sem.run_bind]
      simp[run_underlying hu,hlen2,zdk hsz w,goInt]
      rw[hfc']
      simp[g1']
     ·cases hm
    ·cases hm
   ·cases hm
 ·cases hm
theorem zban (h:Rel N w₀ ρ H w) {r:V} {H':Heap} (hm:zub H=some (r,H')):∃ r' w',(newObj (.map #[] 0)).run P w = .ok w.heap.size w'∧r' = .map (some w.heap.size)∧zv2 N w₀ ρ H w r H' r' w':=by
 unfold zub at hm;cases hm
 obtain⟨g1,g2,g3⟩:=z9k h (.map true []) (.map #[] 0) ⟨w.heap.size,0,0⟩ rfl ⟨rfl,#[],0,by show (w.heap.push _)[w.heap.size]? = _;simp,fun _=>⟨h.big,zbi0 0⟩,.nil,.nil⟩
 exact⟨_,_,rfl,rfl,_,.map H.next _ g3,g1,g2⟩
theorem zbf5:∀ {ks:List FK} {xs ys:List V},zm8 ks xs ys=some true→∀ n,xs.length=ys.length∧(xs.zip ys).all (fun (x,y)=>Instr.sameBits n x y)=true
 | [],[],[],_,n=>⟨rfl,rfl⟩
 | k :: ks,x :: xs,y :: ys,h,n=>by
  simp only[zm8] at h
  split at h
  ·rename_i hq
   obtain⟨h1,h2⟩:=zbf5 h n
   have:Instr.sameBits n x y=true:=by
    cases k <;> cases x <;> cases y <;> simp only[eqK] at hq <;> first | (cases hq;done) | skip
    ·simpa[Instr.sameBits] using hq
    ·split at hq
     ·rename_i hk;subst hk;simpa[Instr.sameBits] using hq
     ·cases hq
    ·simp only[Instr.sameBits,beq_toListBytes,zrb];simpa using hq
   exact⟨by simp[h1],by simp only[List.zip_cons_cons,List.all_cons,this,Bool.true_and];exact h2⟩
  ·cases h
  ·cases h
 | [],[],_ :: _,h,_=>by simp[zm8] at h
 | [],_ :: _,_,h,_=>by simp[zm8] at h
 | _ :: _,[],_,h,_=>by simp[zm8] at h
 | _ :: _,_ :: _,[],h,_=>by simp[zm8] at h
theorem zbf6:∀ {ks:List FK} {xs ys xs' ys':List V},zm8 ks xs ys=some true→LRel ρ xs xs'→LRel ρ ys ys'→zm8 ks xs' ys'=some true
 | [],[],[],_,_,h,hx,hy=>by cases hx;cases hy;exact h
 | k :: ks,x :: xs,y :: ys,_,_,h,hx,hy=>by
  cases hx with
  | cons hx1 hx2 =>
   cases hy with
   | cons hy1 hy2 =>
    simp only[zm8] at h ⊢
    split at h
    ·rename_i hq
     obtain⟨e1,e2⟩:=zx0 hq hx1 hy1
     rw[e1,e2,hq]
     exact zbf6 h hx2 hy2
    ·cases h
    ·cases h
 | [],[],_ :: _,_,_,h,_,_=>by simp[zm8] at h
 | [],_ :: _,_,_,_,h,_,_=>by simp[zm8] at h
 | _ :: _,[],_,_,_,h,_,_=>by simp[zm8] at h
 | _ :: _,_ :: _,[],_,_,h,_,_=>by simp[zm8] at h
theorem zbl6 {kk:KK} {a b a' b':V} (h:zua kk a b=some true) (ha:VRel ρ a a') (hb:VRel ρ b b') (n:Nat):Instr.sameBits (n + 1) b' a'=true:=by
 cases kk with
 | one k =>
  simp only[zua] at h
  obtain⟨rfl,rfl⟩:=zx0 h ha hb
  cases k <;> cases a' <;> cases b' <;> simp only[eqK] at h <;> first | (cases h;done) | skip
  ·simp at h;simp[Instr.sameBits,h]
  ·split at h
   ·rename_i hk;subst hk;simp at h;simp[Instr.sameBits,h]
   ·cases h
  ·simp at h;simp[Instr.sameBits,h,beq_toListBytes]
 | agg ks =>
  simp only[zua] at h
  unfold zho at h
  split at h
  ·obtain⟨A,rfl,hA⟩:=ha.agg_inv
   obtain⟨B,rfl,hB⟩:=hb.agg_inv
   have h':=zbf6 h hA hB
   have hsym:∀ {ks:List FK} {xs ys:List V},zm8 ks xs ys=some true→zm8 ks ys xs=some true:=by
    intro ks
    induction ks with
    | nil=>intro xs ys hq;cases xs <;> cases ys <;> simp_all [zm8]
    | cons k ks ih =>
     intro xs ys hq
     cases xs <;> cases ys <;> simp only[zm8] at hq <;> first | (cases hq;done) | skip
     rename_i x xs y ys
     split at hq
     ·rename_i hq1
      have:eqK k y x=some true:=by
       cases k <;> cases x <;> cases y <;> simp only[eqK] at hq1 <;> first | (cases hq1;done) | skip
       ·simp at hq1;simp[eqK,hq1]
       ·split at hq1
        ·rename_i hk;subst hk;simp at hq1;simp[eqK,hq1]
        ·cases hq1
       ·simp at hq1;simp[eqK,hq1]
      simp only[zm8,this]
      exact ih hq
     ·cases hq
     ·cases hq
   obtain⟨q1,q2⟩:=zbf5 (hsym h') n
   simp only[Array.length_toList] at q1
   simp only[Instr.sameBits,q1,beq_self_eq_true,Bool.true_and]
   exact q2
  ·cases h
theorem zbjf (kk:KK) (k:V):∀ (es:List (V × V)) (i:Nat),zi9 kk k es=some (some i)→∃ e,es[i]? = some e∧zua kk k e.1=some true
 | [],i,h=>by simp[zi9] at h
 | e :: es,i,h=>by
  simp only[zi9] at h
  split at h
  ·rename_i hq;cases h;exact⟨e,rfl,hq⟩
  ·split at h
   ·rename_i j hj;cases h;obtain⟨e',h1,h2⟩:=zbjf kk k es j hj;exact⟨e',by simpa using h1,h2⟩
   ·cases h
   ·cases h
  ·cases h
theorem zoy {r:Nat} {E E2:Array MapEntry} {c c2:Nat} (h:w.heap[r]? = some (.map E c)):(setObj r (.map E2 c2)).run P w = .ok () { w with heap:=w.heap.setIfInBounds r (.map E2 c2) } := by
 simp[setObj,Sem.run,h]
theorem z1e (h:Rel N w₀ ρ H w) {b:Nat} {es es':List (V × V)} (hb:H.get b=some (.map true es)) {L:Loc} (hL:ρ b=some L) {E':Array MapEntry} {c':Nat} (h0:L.off=0) (hN:N≤L.blk) (hB:Born E' c')
  (h1:LRel ρ (es'.map (·.1)) (E'.toList.map (·.key))) (h2:LRel ρ (es'.map (·.2)) (E'.toList.map (·.val))) (hlt:L.blk < w.heap.size) :
  Rel N w₀ ρ (H.set b (some (.map true es'))) { w with heap:=w.heap.setIfInBounds L.blk (.map E' c') } ∧ Ext ρ H w ρ (H.set b (some (.map true es'))) { w with heap:=w.heap.setIfInBounds L.blk (.map E' c') } := by
 have hold:∀ k,k≠L.blk→({ w with heap:=w.heap.setIfInBounds L.blk (.map E' c') }:World).heap[k]? = w.heap[k]? := fun k hk=>by
  show (w.heap.setIfInBounds L.blk _)[k]? = _
  exact Array.getElem?_setIfInBounds_ne (fun e=>hk e.symm)
 have hnew:({ w with heap:=w.heap.setIfInBounds L.blk (.map E' c') }:World).heap[L.blk]? = some (.map E' c'):=by
  show (w.heap.setIfInBounds L.blk _)[L.blk]? = _
  simp[Array.getElem?_setIfInBounds,hlt]
 refine⟨h.put hb hL hN _ rfl rfl rfl (by simp) hold ⟨h0,E',c',hnew,fun _=>⟨hN,hB⟩,h1,h2⟩,zbnq h hb hL _ hold (by simp)⟩
theorem zbcj {α β:Type} (g:α→β) (f:α→α) (x:β) (h:∀ e,g (f e)=x) (l:List α) (i:Nat):(l.modify i f).map g=(l.map g).set i x:=by
 apply List.ext_getElem?
 intro j
 simp only[List.getElem?_map,List.getElem?_modify,List.getElem?_set,List.length_map]
 by_cases hj:i=j
 ·subst hj
  by_cases hl:i < l.length
  ·simp[hl,h]
  ·simp[hl,List.getElem?_eq_none (Nat.le_of_not_lt hl)]
 ·simp[hj]
theorem zbjg {α β:Type} (f:α→β) (l:List α) (i:Nat) (x:α):(l.set i x).map f=(l.map f).set i (f x):=by
 rw[List.map_set]
theorem zbjh {E:Array MapEntry} {c:Nat} (h:Born E c) (i:Nat) (f:MapEntry→MapEntry) (hf:∀ e,(f e).born=e.born):Born (E.modify i f) c:=by
 have hm:(E.modify i f).toList.map (·.born)=E.toList.map (·.born):=by
  rw[Array.toList_modify]
  apply List.ext_getElem?
  intro j
  simp only[List.getElem?_map,List.getElem?_modify]
  by_cases hj:i=j
  ·subst hj;cases E.toList[i]? <;> simp[hf]
  ·simp[hj]
 refine⟨?_,fun e he=>?_⟩
 ·have:=List.pairwise_map.2 h.1
  rw[← hm] at this
  exact List.pairwise_map.1 this
 ·have:e.born∈E.toList.map (·.born):=by rw[← hm];exact List.mem_map_of_mem he
  obtain⟨e2,h2,h3⟩:=List.mem_map.1 this
  rw[← h3];exact h.2 e2 h2
theorem zbo4 {E:Array MapEntry} {c:Nat} (h:Born E c) (e:MapEntry) (he:e.born=c):Born (E.push e) (c + 1):=by
 refine⟨?_,fun x hx=>?_⟩
 ·rw[Array.toList_push]
  refine List.pairwise_append.2 ⟨h.1,by simp,fun a ha b hb=>?_⟩
  simp only[List.mem_singleton] at hb;subst hb
  rw[he];exact h.2 a ha
 ·rw[Array.toList_push,List.mem_append] at hx
  rcases hx with hx | hx
  ·have:=h.2 x hx;omega
  ·simp only[List.mem_singleton] at hx;subst hx;omega
theorem zbl7 {E E':Array MapEntry} {c i:Nat} (h:Born E c) (he:E'.toList=E.toList.eraseIdx i):Born E' c:=by
 have hs:List.Sublist (E.toList.eraseIdx i) E.toList:=List.eraseIdx_sublist _ _
 refine⟨?_,fun e hm=>?_⟩
 ·rw[he];exact h.1.sublist hs
 ·rw[he] at hm;exact h.2 e (hs.subset hm)
theorem z7l (h:Rel N w₀ ρ H w) {kk:KK} {m k v m' k' v' r:V} {H':Heap} {t kt et:TypeId} (hu:P.underlying t=some (.map kt et)) (hf:z4c P kt=some kk)
  (hl:zga kk m k v H=some (r,H')) (hm:VRel ρ m m') (hk:VRel ρ k k') (hv:VRel ρ v v') :
  r=undef∧∃ w',(Instr.mapUpdate t m' k' v').run P w = .ok () w'∧Rel N w₀ ρ H' w'∧Ext ρ H w ρ H' w':=by
 unfold zga at hl
 split at hl
 ·rename_i hcond
  simp only[Bool.and_eq_true] at hcond
  have hck:=fun em=>z1b hf hk hcond.1.1 em w
  split at hl
  ·rename_i b
   split at hl
   ·rename_i es hb
    have hm2:∃ L,ρ b=some L∧m' = .map (some L.blk):=by cases hm;exact⟨_,by assumption,rfl⟩
    obtain⟨L,hL,rfl⟩:=hm2
    obtain⟨E,clk,h1,hN,h0,h2,h3⟩:=h.map hb hL
    have hlt:=h.lt hb hL
    split at hl
    ·rename_i i hi
     cases hl
     have hfk:=znv hf hk es E.toList (some i) h2 hi w
     have hlt2:=z7j kk k es i hi
     have hlE:i < E.size:=by have:=h2.length;simp at this;omega
     obtain⟨e,he,hq⟩:=zbjf kk k es i hi
     have hke:VRel ρ e.1 E[i].key:=by
      obtain⟨x',hx',hrel⟩:=h2.get i e.1 (by simp[he])
      have:E[i].key=x':=by simpa[hlE] using hx'
      rw[this];exact hrel
     have hstay:(Instr.keyThatStays E[i].key k').run P w = .ok k' w:=by
      have:Instr.sameBits 10000 E[i].key k'=true:=zbl6 hq hk hke 9999
      simp[Instr.keyThatStays,this]
     have hbind:(some i).bind (fun j=>(E.toList[j]?).map fun e=>(j,e.val))=some (i,E[i].val):=by simp[hlE]
     rw[hbind] at hfk
     obtain⟨g1,g2⟩:=z1e h hb hL (es':=es.set i (k,v)) (E':=E.modify i fun e=>{ e with key:=k',val:=v' }) (c':=clk) h0 (hN rfl).1 (zbjh (hN rfl).2 _ _ fun _=>rfl)
      (by rw[zbjg,Array.toList_modify,zbcj _ _ k' (fun _=>rfl)];exact h2.set hk i)
      (by rw[zbjg,Array.toList_modify,zbcj _ _ v' (fun _=>rfl)];exact h3.set hv i) hlt
     refine⟨rfl,_,?_,g1,g2⟩
     have hei:E[i]? = some E[i]:=by simp[hlE]
     simp[Instr.mapUpdate,run_underlying hu,zg8 h1,hck,hfk,hei,hstay,zoy h1]
    ·rename_i hi
     cases hl
     have hfk:=znv hf hk es E.toList none h2 hi w
     obtain⟨g1,g2⟩:=z1e h hb hL (es':=es ++ [(k,v)]) (E':=E.push { key:=k',val:=v',born:=clk }) (c':=clk + 1) h0 (hN rfl).1 (zbo4 (hN rfl).2 _ rfl)
      (by simpa using h2.append (.cons hk .nil)) (by simpa using h3.append (.cons hv .nil)) hlt
     refine⟨rfl,_,?_,g1,g2⟩
     simp[Instr.mapUpdate,run_underlying hu,zg8 h1,hck,hfk,zoy h1]
    ·cases hl
   ·cases hl
  ·cases hl
 ·cases hl
theorem zoz {α β:Type} (f:α→β):∀ (l:List α) (i:Nat),(l.eraseIdx i).map f=(l.map f).eraseIdx i
 | [],i=>by simp
 | x :: l,0=>by simp
 | x :: l,i + 1=>by simp[zoz f l i]
theorem LRel.eraseIdx {l l':List V} (h:LRel ρ l l'):∀ n,LRel ρ (l.eraseIdx n) (l'.eraseIdx n):=by
 induction h with
 | nil=>intro n;simp;exact .nil
 | cons h g ih=>intro n;cases n with
  | zero=>simpa using g
  | succ n=>simp;exact .cons h (ih n)
theorem zbji (h:Rel N w₀ ρ H w) {b:Nat} {es:List (V × V)} (hb:H.get b=some (.map true es)) {L:Loc} (hL:ρ b=some L) {E:Array MapEntry} {c:Nat} (h1:w.heap[L.blk]? = some (.map E c)) :
  ({ w with heap:=w.heap.setIfInBounds L.blk (.map E c) }:World)=w:=by
 have:w.heap.setIfInBounds L.blk (.map E c)=w.heap:=by
  apply Array.ext_getElem?
  intro k
  by_cases hk:k=L.blk
  ·subst hk;rw[h1];have:=h.lt hb hL;simp[Array.getElem?_setIfInBounds,this]
  ·exact Array.getElem?_setIfInBounds_ne (fun e=>hk e.symm)
 rw[this]
theorem zbhb (h:Rel N w₀ ρ H w) {kk:KK} {m k m' k' r:V} {H':Heap} {t u ty kt et:TypeId} (hu:P.underlying t=some (.map kt et)) (hf:z4c P kt=some kk)
  (hl:zblo kk m k H=some (r,H')) (hm:VRel ρ m m') (hk:VRel ρ k k') :
  r=undef∧∃ w',(Builtin.delete_ #[t,u] ty #[m',k']).run P w = .ok (.tuple #[]) w'∧Rel N w₀ ρ H' w'∧Ext ρ H w ρ H' w':=by
 unfold zblo at hl
 split at hl
 ·rename_i hcond
  have hck:=fun em=>z1b hf hk hcond em w
  split at hl
  ·cases hl
   have:m' = .map none:=by cases hm;rfl
   subst this
   exact⟨rfl,w,by simp[Builtin.delete_,run_underlying hu,hck],h,.refl _ _ _⟩
  ·rename_i b
   split at hl
   ·rename_i es hb
    have hm2:∃ L,ρ b=some L∧m' = .map (some L.blk):=by cases hm;exact⟨_,by assumption,rfl⟩
    obtain⟨L,hL,rfl⟩:=hm2
    obtain⟨E,clk,h1,hN,h0,h2,h3⟩:=h.map hb hL
    have hlt:=h.lt hb hL
    split at hl
    ·rename_i i hi
     cases hl
     have hfk:=znv hf hk es E.toList (some i) h2 hi w
     have hlt2:=z7j kk k es i hi
     have hlE:i < E.size:=by have:=h2.length;simp at this;omega
     have hbind:(some i).bind (fun j=>(E.toList[j]?).map fun e=>(j,e.val))=some (i,E[i].val):=by simp[hlE]
     rw[hbind] at hfk
     have hto:(E.eraseIdxIfInBounds i).toList=E.toList.eraseIdx i:=by simp[Array.eraseIdxIfInBounds,hlE]
     obtain⟨g1,g2⟩:=z1e h hb hL (es':=es.eraseIdx i) (E':=E.eraseIdxIfInBounds i) (c':=clk) h0 (hN rfl).1 (zbl7 (hN rfl).2 hto)
      (by rw[hto,zoz,zoz];exact h2.eraseIdx i) (by rw[hto,zoz,zoz];exact h3.eraseIdx i) hlt
     refine⟨rfl,_,?_,g1,g2⟩
     simp[Builtin.delete_,run_underlying hu,zg8 h1,hck,hfk,zoy h1]
    ·rename_i hi
     cases hl
     have hfk:=znv hf hk es E.toList none h2 hi w
     refine⟨rfl,w,?_,h,.refl _ _ _⟩
     simp[Builtin.delete_,run_underlying hu,zg8 h1,hck,hfk,zoy h1,zbji h hb hL h1]
    ·cases hl
   ·cases hl
  ·cases hl
 ·cases hl
end Go.AM

/- Operations that make and write memory: all of them. -/
namespace Go.AM
open Go.RowKit (Below)
variable {P:Program} {N:Nat} {w₀:World} {ρ:Ren} {H:Heap} {w:World}
def zbw1 (nx:Next) (r':V):Prop:=nx = .value r'∨(nx = .skip∧r'=undef)
theorem zx3 {r:V} {H':Heap} {w':World} (h:Rel N w₀ ρ H' w') (g:Ext ρ H w ρ H' w') (hr:r=undef):zv2 N w₀ ρ H w r H' undef w':=by
 subst hr;exact⟨ρ,.undef _,h,g⟩
theorem zbo5 (h:Rel N w₀ ρ H w) {e c:Operand→V} (hr:∀ z,VRel ρ (e z) (c z)) (o:Oper) {r:V} {H':Heap} (hl:actM P e o.op H=some (r,H')) :
  ∃ nx r' w',(execOp c o).run P w = .ok nx w'∧zbw1 nx r'∧zv2 N w₀ ρ H w r H' r' w':=by
 obtain⟨dst,op,ty,pos,after,guard⟩:=o
 simp only at hl
 cases op <;> simp only[actM] at hl <;> first | exact (zw hl).elim | skip
 case alloc el =>
  cases hz:zfw P el with
  | none=>simp only[hz] at hl;exact (zw hl).elim
  | some z =>
   simp only[hz] at hl
   obtain⟨r',w',g1,g2⟩:=zblz (P:=P) h hz hl
   exact⟨.value r',r',w',by simp[execOp,g1],.inl rfl,g2⟩
 case box el x =>
  cases hb:bldT P el with
  | true =>
   rw[hb] at hl
   obtain⟨r',w',g1,g2⟩:=zbl1 (P:=P) (t:=el) h (hr x) hl
   exact⟨.value r',r',w',by simp[execOp,g1],.inl rfl,g2⟩
  | false =>
   rw[hb] at hl
   obtain⟨r',w',g1,g2⟩:=zbl0 (P:=P) (t:=el) h (hr x) hl
   exact⟨.value r',r',w',by simp[execOp,g1],.inl rfl,g2⟩
 case buildSlice t len parts =>
  generalize hu:P.underlying t=d at hl
  split at hl
  all_goals first | exact (zw hl).elim | skip
  rename_i el
  generalize hs:zfk P el=s at hl
  generalize hz:zfw P el=z at hl
  split at hl
  all_goals first | exact (zw hl).elim | skip
  rename_i n z
  split at hl
  all_goals first | exact (zw hl).elim | skip
  rename_i hc
  obtain⟨r',w',g1,g2⟩:=zbl2 (P:=P) h hr hu hs hz hc.1 hc.2.1 hc.2.2 hl
  exact⟨.value r',r',w',by simp[execOp,g1],.inl rfl,g2⟩
 case store t a x =>
  cases hk:tk P t with
  | none=>simp only[hk] at hl;exact (zw hl).elim
  | some k =>
   cases k with
   | one =>
    simp only[hk] at hl
    obtain⟨g0,w',g1,g2,g3⟩:=zbow (P:=P) h hk hl (hr a) (hr x)
    exact⟨.skip,undef,w',by simp[execOp,g1],.inr ⟨rfl,rfl⟩,zx3 g2 g3 g0⟩
   | agg n =>
    simp only[hk] at hl
    obtain⟨g0,w',g1,g2,g3⟩:=zbox (P:=P) h hk hl (hr a) (hr x)
    exact⟨.skip,undef,w',by simp[execOp,g1],.inr ⟨rfl,rfl⟩,zx3 g2 g3 g0⟩
 case convert src dst x =>
  generalize hs:P.underlying src=s at hl
  generalize hd:P.underlying dst=d at hl
  split at hl
  all_goals first | exact (zw hl).elim | skip
  rename_i el
  generalize hel:P.underlying el=ed at hl
  split at hl
  all_goals first | exact (zw hl).elim | skip
  obtain⟨s,r',w',g0,g1,g2⟩:=zbo2 (P:=P) (e:=el) h (hr x) hl
  refine⟨.value r',r',w',?_,.inl rfl,g2⟩
  simp[execOp,convert,run_underlying hs,run_underlying hd,g0,run_underlying hel,g1]
 case insert t m k v =>
  generalize hu:P.underlying t=d at hl
  split at hl
  all_goals first | exact (zw hl).elim | skip
  rename_i kt et
  generalize hkk:z4c P kt=kk at hl
  split at hl
  all_goals first | exact (zw hl).elim | skip
  obtain⟨g0,w',g1,g2,g3⟩:=z7l (P:=P) h hu hkk hl (hr m) (hr k) (hr v)
  exact⟨.skip,undef,w',by simp[execOp,g1],.inr ⟨rfl,rfl⟩,zx3 g2 g3 g0⟩
 case makeMap t reserve =>
  cases reserve with
  | none =>
   obtain⟨r',w',g1,g2,g3⟩:=zban (P:=P) h hl
   refine⟨.value r',r',w',?_,.inl rfl,g3⟩
   simp only[execOp,Instr.makeMap,Option.map_none,Sem.run_bind,Sem.run_pure,Result.andThen_ok,g1,g2]
  | some hint =>
   simp only at hl
   generalize hu:P.underlying t=d at hl
   generalize hh:e hint=q at hl
   split at hl
   all_goals first | exact (zw hl).elim | skip
   have hq:=hr hint
   rw[hh] at hq
   obtain⟨r',w',g1,g2,g3⟩:=zban (P:=P) h hl
   refine⟨.value r',r',w',?_,.inl rfl,g3⟩
   simp only[execOp,Instr.makeMap,Option.map_some,Sem.run_bind,Sem.run_pure,Result.andThen_ok,run_underlying hu,hq.int_inv,asInt,asIntOf,g1,g2]
 case makeSlice t l k =>
  generalize hu:P.underlying t=d at hl
  split at hl
  all_goals first | exact (zw hl).elim | skip
  rename_i el
  generalize hs:zfk P el=s at hl
  generalize hb:zmv P el=b at hl
  generalize hz:zfw P el=z at hl
  split at hl
  all_goals first | exact (zw hl).elim | skip
  split at hl
  all_goals first | exact (zw hl).elim | skip
  rename_i hc
  obtain⟨r',w',g1,g2⟩:=zbje (P:=P) h hu hs hb hz hc.1 hc.2 (hr l) (hr k) hl
  exact⟨.value r',r',w',by simp[execOp,g1],.inl rfl,g2⟩
 case mapUpdate t m k v =>
  generalize hu:P.underlying t=d at hl
  split at hl
  all_goals first | exact (zw hl).elim | skip
  rename_i kt et
  generalize hkk:z4c P kt=kk at hl
  split at hl
  all_goals first | exact (zw hl).elim | skip
  obtain⟨g0,w',g1,g2,g3⟩:=z7l (P:=P) h hu hkk hl (hr m) (hr k) (hr v)
  exact⟨.skip,undef,w',by simp[execOp,g1],.inr ⟨rfl,rfl⟩,zx3 g2 g3 g0⟩
 case call cl =>
  obtain⟨callee,args,argTypes⟩:=cl
  simp only at hl
  cases callee <;> simp only at hl <;> first | exact (zw hl).elim | skip
  rename_i b
  obtain⟨args⟩:=args
  obtain⟨ts⟩:=argTypes
  simp only[actB] at hl
  split at hl
  all_goals first | exact (zw hl).elim | skip
  ·rename_i s x t u
   generalize hu:P.underlying t=d at hl
   split at hl
   all_goals first | exact (zw hl).elim | skip
   rename_i el
   generalize hs:zfk P el=sz at hl
   generalize hb:zmv P el=by_ at hl
   generalize hz:zfw P el=z at hl
   split at hl
   all_goals first | exact (zw hl).elim | skip
   split at hl
   all_goals first | exact (zw hl).elim | skip
   rename_i hc
   generalize hd:P.underlying u=du at hl
   split at hl
   all_goals first | exact (zw hl).elim | skip
   ·obtain⟨r',w',g1,g2⟩:=zbl3 (P:=P) (ty:=ty) h hu hd hs hb hz hc.1 hc.2.1 hc.2.2 (hr s) (hr x) hl
    exact⟨.value r',r',w',by simp[execOp,resolve,invoke,builtin,g1],.inl rfl,g2⟩
   ·split at hl
    all_goals first | exact (zw hl).elim | skip
    rename_i h1
    obtain⟨rfl,rfl⟩:=h1
    obtain⟨r',w',g1,g2⟩:=zbl4 (P:=P) (ty:=ty) h hu hd hs hb hz hc.1 (hr s) (hr x) hl
    exact⟨.value r',r',w',by simp[execOp,resolve,invoke,builtin,g1],.inl rfl,g2⟩
   ·obtain⟨r',w',g1,g2⟩:=zbl5 (P:=P) (ty:=ty) h hu hd hs hb hz hc.1 hc.2.1 hc.2.2 (hr s) (hr x) hl
    exact⟨.value r',r',w',by simp[execOp,resolve,invoke,builtin,g1],.inl rfl,g2⟩
  ·rename_i d x t u
   generalize hu:P.underlying t=dt at hl
   split at hl
   all_goals first | exact (zw hl).elim | skip
   rename_i el
   generalize hs:zfk P el=sz at hl
   split at hl
   all_goals first | exact (zw hl).elim | skip
   obtain⟨r',w',g1,g2⟩:=zbo3 (P:=P) (u:=u) (ty:=ty) h hu hs (hr d) (hr x) hl
   exact⟨.value r',r',w',by simp[execOp,resolve,invoke,builtin,g1],.inl rfl,g2⟩
  ·rename_i m k t u
   generalize hu:P.underlying t=dt at hl
   split at hl
   all_goals first | exact (zw hl).elim | skip
   rename_i kt et
   generalize hkk:z4c P kt=kk at hl
   split at hl
   all_goals first | exact (zw hl).elim | skip
   obtain⟨g0,w',g1,g2,g3⟩:=zbhb (P:=P) (u:=u) (ty:=ty) h hu hkk hl (hr m) (hr k)
   exact⟨.value undef,undef,w',by simp[execOp,resolve,invoke,builtin,g1,undef],.inl rfl,zx3 g2 g3 g0⟩
theorem zbq7 (hN:N≤w.heap.size) {e c:Operand→V} (hr:∀ z,VRel ρ (e z) (c z)) (o:Oper) (hmk:isMk P o.op=true) {v:V} {K:Heap} (hl:actM P e o.op Heap.none0=some (v,K)) :
  ∃ x,K=Heap.one x∧∃ r' w',(execOp c o).run P w = .ok (.value r') w'∧MkOK N ρ w v x r' w':=by
 obtain⟨dst,op,ty,pos,after,guard⟩:=o
 simp only at hl hmk
 cases op <;> simp only[isMk] at hmk <;> first | (cases hmk;done) | skip
 all_goals simp only[actM] at hl
 case alloc el =>
  cases hz:zfw P el with
  | none=>simp only[hz] at hl;exact (zw hl).elim
  | some z =>
   simp only[hz] at hl
   obtain⟨x,hx,r',w',g1,g2⟩:=zbnr (P:=P) (ρ:=ρ) hN hz hl
   exact⟨x,hx,r',w',by simp[execOp,g1],g2⟩
 case box el y =>
  cases hb:bldT P el with
  | true =>
   rw[hb] at hl
   obtain⟨x,hx,r',w',g1,g2⟩:=zbnt (P:=P) (t:=el) hN (hr y) hl
   exact⟨x,hx,r',w',by simp[execOp,g1],g2⟩
  | false =>
   rw[hb] at hl
   obtain⟨x,hx,r',w',g1,g2⟩:=zbns (P:=P) (t:=el) hN (hr y) hl
   exact⟨x,hx,r',w',by simp[execOp,g1],g2⟩
 case buildSlice t len parts =>
  generalize hu:P.underlying t=d at hl
  split at hl
  all_goals first | exact (zw hl).elim | skip
  rename_i el
  generalize hs:zfk P el=s at hl
  generalize hz:zfw P el=z at hl
  split at hl
  all_goals first | exact (zw hl).elim | skip
  rename_i n z
  split at hl
  all_goals first | exact (zw hl).elim | skip
  rename_i hc
  obtain⟨x,hx,r',w',g1,g2⟩:=zbnv (P:=P) (t:=t) hN hr hu hs hz hc.1 hc.2.1 hc.2.2 hl
  exact⟨x,hx,r',w',by simp[execOp,g1],g2⟩
 case convert src dst y =>
  generalize hs:P.underlying src=s at hl
  generalize hd:P.underlying dst=d at hl
  split at hl
  all_goals first | exact (zw hl).elim | skip
  rename_i el
  generalize hel:P.underlying el=ed at hl
  split at hl
  all_goals first | exact (zw hl).elim | skip
  obtain⟨x,hx,s,r',w',g0,g1,g2⟩:=zbq2 (P:=P) (e:=el) hN (hr y) hl
  refine⟨x,hx,r',w',?_,g2⟩
  simp[execOp,convert,run_underlying hs,run_underlying hd,g0,run_underlying hel,g1]
 case makeMap t reserve =>
  cases reserve with
  | none =>
   simp only[zub] at hl;cases hl
   refine⟨.map true [],rfl,.map (some w.heap.size),w.alloc (.map #[] 0),?_,zbjd hN⟩
   simp only[execOp,Instr.makeMap,Option.map_none,Sem.run_bind,Sem.run_pure,Result.andThen_ok,run_newObj];rfl
  | some hint =>
   simp only at hl
   generalize hu:P.underlying t=d at hl
   generalize hh:e hint=q at hl
   split at hl
   all_goals first | exact (zw hl).elim | skip
   have hq:=hr hint
   rw[hh] at hq
   simp only[zub] at hl;cases hl
   refine⟨.map true [],rfl,.map (some w.heap.size),w.alloc (.map #[] 0),?_,zbjd hN⟩
   simp only[execOp,Instr.makeMap,Option.map_some,Sem.run_bind,Sem.run_pure,Result.andThen_ok,run_underlying hu,hq.int_inv,asInt,asIntOf,run_newObj];rfl
 case makeSlice t l k =>
  generalize hu:P.underlying t=d at hl
  split at hl
  all_goals first | exact (zw hl).elim | skip
  rename_i el
  generalize hs:zfk P el=s at hl
  generalize hb:zmv P el=b at hl
  generalize hz:zfw P el=z at hl
  split at hl
  all_goals first | exact (zw hl).elim | skip
  split at hl
  all_goals first | exact (zw hl).elim | skip
  rename_i hc
  obtain⟨x,hx,r',w',g1,g2⟩:=zbjb (P:=P) (t:=t) hN hu hs hb hz hc.1 hc.2 (hr l) (hr k) hl
  exact⟨x,hx,r',w',by simp[execOp,g1],g2⟩
def SimF (P:Program) (f:FuncId) (F:List V→M V):Prop :=
 ∀ (N:Nat) (w₀:World) (ρ:Ren) (H:Heap) (w:World) (args args':List V) (r:V) (H':Heap),P.globals.size≤N→Rel N w₀ ρ H w→LRel ρ args args'→F args H=some (r,H') →
  Calls P f args'.toArray w fun e w'=>∃ r',e = .returned r'∧zv2 N w₀ ρ H w r H' r' w'
def zuk (P:Program) (f:FuncId):Bool:=match P.funcs[f]? with
 | some fn=>fn.name != "runtime.NumGoroutine" && fn.body.isSome
 | none=>false
theorem z7m {f:FuncId} (hp:zuk P f=true) (args:Array V) (w:World):(callFunc f args).run P w = .ok (.enter f args) w:=by
 unfold zuk at hp
 split at hp
 ·rename_i fn hfn
  simp only[Bool.and_eq_true,bne_iff_ne,ne_eq,Option.isSome_iff_exists] at hp
  obtain⟨h1,c,h2⟩:=hp
  simp[callFunc,hfn,h1,h2]
 ·cases hp
def zd3 (P:Program) (σ:zu):Prop:=∀ f args H r H',σ f args H=some (r,H')→zuk P f=true∧SimF P f (σ f)
theorem z55 {en:Env} {c:Operand→V} (hr:∀ z,VRel ρ (evO P en z) (c z)):∀ l:List Operand,LRel ρ (z5u P en l) (l.map c)
 | [] => .nil
 | x :: xs => .cons (hr x) (z55 hr xs)
theorem zbl8 {σ:zu} (hσ:zd3 P σ) (hG:P.globals.size≤N) (h:Rel N w₀ ρ H w) {f f':V} {args args':List V} {r:V} {H':Heap} (hf:VRel ρ f f') (ha:LRel ρ args args') (hl:zmm σ f args H=some (r,H')) (c:Call) (cv:Operand→V) (fo:Operand) (ty:TypeId)
  (hc:c.callee = .value fo) (hfo:cv fo=f') (hargs:(c.args.map cv).toList=args') :
  ∃ g gargs,((do let d ← resolve cv c ty;invoke d.target d.args):Sem Next).run P w = .ok (.enter g gargs) w∧Calls P g gargs w fun e w'=>∃ r',e = .returned r'∧zv2 N w₀ ρ H w r H' r' w':=by
 unfold zmm at hl
 split at hl
 ·rename_i g x y
  have hfi:∃ x' y',f' = .func (.func g) x' y'∧LRel ρ x.toList x'.toList∧LRel ρ y.toList y'.toList:=by
   cases hf;exact⟨_,_,rfl,arel (by assumption) (by assumption),arel (by assumption) (by assumption)⟩
  obtain⟨x',y',rfl,hx,hy⟩:=hfi
  obtain⟨hp,hs⟩:=hσ _ _ _ _ _ hl
  have hall:LRel ρ (x.toList ++ (args ++ y.toList)) (x'.toList ++ (args' ++ y'.toList)):=hx.append (ha.append hy)
  refine⟨g,(x'.toList ++ (args' ++ y'.toList)).toArray,?_,hs N w₀ ρ H w _ _ r H' hG h hall hl⟩
  have harr:c.args.map cv=args'.toArray:=by apply Array.ext';simpa using hargs
  simp only[resolve,hc,hfo,harr,Deferred.ofValue,Sem.run_bind,Sem.run_pure,Result.andThen_ok,invoke]
  rw[z7m hp]
  congr 2
  apply Array.ext'
  simp
 ·exact (zw hl).elim
theorem zbl9 {t:TypeId} {name:String} {f:FuncId} (h:zbqy P t name=some f) (k:Nat) (v:V) (w:World):(method (k + 1) t v name).run P w = .ok (f,v) w:=by
 unfold zbqy at h
 split at h
 ·rename_i i u hi hu
  split at h
  ·rename_i m hm
   split at h
   ·rename_i f' pr hf
    split at h
    ·rename_i hc
     cases h
     simp only[Bool.and_eq_true,beq_iff_eq] at hc
     obtain⟨h1,h2⟩:=hc
     have hp:m.path.toList=[]:=by simpa using h1
     have ht:(typeInfo t).run P w = .ok i w:=by simp[typeInfo,hi]
     simp only[method,Sem.run_bind,ht,Result.andThen_ok,hm,hp,follow,Sem.run_pure,hf,receiverAt,run_underlying hu,Place.get]
     subst h2
     cases u <;> simp[Place.get,zbqx]
    ·cases h
   ·cases h
  ·cases h
 ·cases h
theorem zbo6 {σ:zu} (hσ:zd3 P σ) (hG:P.globals.size≤N) (h:Rel N w₀ ρ H w) {v v':V} {name:String} {args args':List V} {r:V} {H':Heap} (hv:VRel ρ v v') (ha:LRel ρ args args') (hl:invM P σ v name args H=some (r,H')) (c:Call) (cv:Operand→V) (fo:Operand) (ty:TypeId)
  (hc:c.callee = .invoke fo name) (hfo:cv fo=v') (hargs:(c.args.map cv).toList=args') :
  ∃ g gargs,((do let d ← resolve cv c ty;invoke d.target d.args):Sem Next).run P w = .ok (.enter g gargs) w∧Calls P g gargs w fun e w'=>∃ r',e = .returned r'∧zv2 N w₀ ρ H w r H' r' w':=by
 unfold invM at hl
 cases hi:invG P v name with
 | none=>rw[hi] at hl;exact (zw (H:=H) hl).elim
 | some q =>
  rw[hi] at hl
  unfold invG at hi
  split at hi
  ·rename_i t x
   have hx:∃ x',v' = .iface t x'∧VRel ρ x x':=by cases hv;exact⟨_,rfl,by assumption⟩
   obtain⟨x',rfl,hx⟩:=hx
   obtain⟨g,hg,rfl⟩:=Option.map_eq_some_iff.1 hi
   change σ g (x :: args) H=some (r,H') at hl
   obtain⟨hp,hs⟩:=hσ _ _ _ _ _ hl
   refine⟨g,(x' :: args').toArray,?_,hs N w₀ ρ H w _ _ r H' hG h (.cons hx ha) hl⟩
   have harr:c.args.map cv=args'.toArray:=by apply Array.ext';simpa using hargs
   simp only[resolve,hc,hfo,harr,Sem.run_bind,Sem.run_pure,Result.andThen_ok,invoke]
   have h0:(#[Value.iface t x'] ++ args'.toArray)[0]? = some (.iface t x'):=by simp
   have h1:(#[Value.iface t x'] ++ args'.toArray).extract 1 (#[Value.iface t x'] ++ args'.toArray).size=args'.toArray:=by apply Array.ext';simp
   have hpr:(program).run P w = .ok P w:=rfl
   simp only[h0,h1,callMethod,Sem.run_bind,hpr,Result.andThen_ok]
   rw[show P.types.size + Made.depth=(P.types.size + 99) + 1 from rfl,zbl9 hg]
   simp only[Result.andThen_ok]
   rw[z7m hp]
   congr 2
   apply Array.ext'
   simp
  ·cases hi
end Go.AM
