import Derived.Test.YtjchglndancedaaGreatDoorAmOps7
set_option linter.all false
/- Operations that make and write memory: the theorem. -/
namespace Go.AM
open Go.RowKit (Below)
variable {P:Program} {N:Nat} {w₀:World} {ρ:Ren} {H:Heap} {w:World}
theorem zbep (h:Rel N w₀ ρ H w) {size len:Nat} {x x':V} {l:List V} (hx:VRel ρ x x') (hl:zfh x=len) (hc:zbf H size x=some l) :
  l.length=len * size∧(Builtin.lenOf x').run P w = .ok len w∧∃ l',LRel ρ l l'∧∀ n,(Builtin.firstCells size len x').run P { w with drawn:=n } = .ok l'.toArray { w with drawn:=n } := by
 unfold zbf at hc
 split at hc
 ·cases hc
  obtain⟨_,_,rfl⟩:=hx.snil_inv
  simp only[zfh] at hl;subst hl
  exact⟨by simp,by simp[Builtin.lenOf],[],.nil,fun n=>by simp[Builtin.firstCells]⟩
 ·rename_i b o u ln cap
  simp only[zfh] at hl;subst hl
  obtain⟨L,co,ccap,ca,hL,rfl,ho,hln,_,_,hca,_⟩:=hx.slc_inv
  split at hc
  ·rename_i h0;cases hc;subst h0
   exact⟨by simp,by simp[Builtin.lenOf],[],.nil,fun n=>by simp[Builtin.firstCells,loadCells,loadCellsFrom]⟩
  ·rename_i h0
   have hco:co=L.off + o:=by rcases ho with ho | ho <;> omega
   subst hco
   obtain rfl:ca=⟨L.blk,L.off + o,none⟩:=hca.resolve_right (by omega)
   obtain⟨h1,l',h2,h3⟩:=h.cellsAt hc hL
   refine⟨h1,by simp[Builtin.lenOf],l',h2,fun n=>?_⟩
   simp only[Builtin.firstCells]
   have:=zi5 (P:=P) (w:={ w with drawn:=n }) (b:=L.blk) (o:=L.off + o) (l:=l') h3
   rw[← h2.length,h1] at this
   exact this
 ·cases hc
theorem zbtg (h:Rel N w₀ ρ H w) {t u ty e q:TypeId} {size bytes:Nat} {z s s' x x' r:V} {H':Heap} (hu:P.underlying t=some (.slice e)) (hd:P.underlying u=some (.slice q))
  (hsz:zfu P e=some size) (hb:zn7 P e=some bytes) (hz:zf5 P e=some z) (hzs:z.cells.size=size) (h0:0 < size) (hb0:0 < bytes) (hs:VRel ρ s s') (hx:VRel ρ x x')
  (hm:zd0 size bytes s x H=some (r,H')):∃ r' w',(Builtin.append_ #[t,u] ty #[s',x']).run P w = .ok r' w'∧zxv N w₀ ρ H w r H' r' w':=by
 unfold zd0 at hm
 split at hm
 ·rename_i a n c
  cases hcs:zbf H size (.slice a n c) with
  | some new =>
   rw[hcs] at hm
   obtain⟨h1,h2,new',h3,h4⟩:=zbep (P:=P) h hx rfl hcs
   exact z4c h hu hsz hb hz hzs h0 hb0 hs (zbys hu (.inl ⟨_,hd⟩) hsz hb hz hb0 h2 h4 h3) h1 hm
  | none =>
   rw[hcs] at hm
   unfold zvu at hm
   split at hm
   ·rename_i y len cap
    split at hm
    ·rename_i hn;cases hm;subst hn
     refine⟨s',w,?_,ρ,hs,h,.refl _ _ _⟩
     generalize hx2:x'=x2 at hx
     generalize hs2:s'=s2 at hs
     have hfw:(Builtin.lenOf x2).run P w = .ok 0 w∧(Builtin.firstCells size 0 x2).run P w = .ok (#[]:Array V) w:=by
      cases hx <;> exact⟨by simp[Builtin.lenOf],by simp[Builtin.firstCells,loadCells,loadCellsFrom]⟩
     cases hs with
     | snil=>exact z4b (new':=[]) hu (.inl ⟨_,hd⟩) (zdr hsz w) hfw.1 hfw.2 (Nat.le_refl _) rfl
     | slc b o u2 len cap L co ccap ca hL ho hl hc hss hca hmx=>exact z4b (new':=[]) hu (.inl ⟨_,hd⟩) (zdr hsz w) hfw.1 hfw.2 (by omega) rfl
    ·simp at hm
   ·cases hm
 ·cases hm
theorem zbf0 (s:ByteArray) (n:Nat):((s.extract 0 n).data.map fun b=>Value.int .u8 (b.toNat:Int)).toList=(zn6 s).take n:=by
 simp[zn6,ByteArray.data_extract]
theorem zbth (h:Rel N w₀ ρ H w) {t u ty e:TypeId} {z s s' x x' r:V} {H':Heap} (hu:P.underlying t=some (.slice e)) (hd:P.underlying u=some .string)
  (hsz:zfu P e=some 1) (hb:zn7 P e=some 1) (hz:zf5 P e=some z) (hzs:z.cells.size=1) (hs:VRel ρ s s') (hx:VRel ρ x x')
  (hm:appS s x H=some (r,H')):∃ r' w',(Builtin.append_ #[t,u] ty #[s',x']).run P w = .ok r' w'∧zxv N w₀ ρ H w r H' r' w':=by
 unfold appS at hm
 split at hm
 ·rename_i str
  rw[hx.string_inv]
  refine z4c h hu hsz hb hz hzs (by omega) (by omega) hs (zbys hu (.inr hd) hsz hb hz (by omega) (by simp[Builtin.lenOf]) (fun n=>?_) (zbal str)) (by rw[zyz];omega) hm
  simp only[Builtin.firstCells,Sem.run_pure]
  congr 1
  apply Array.ext'
  rw[zbf0,List.take_of_length_le (by rw[zyz];exact Nat.le_refl _)]
 ·cases hm
theorem zbti (h:Rel N w₀ ρ H w) {t u ty e:TypeId} {k:IntKind} {size bytes:Nat} {z s s' x x' r:V} {H':Heap} (hu:P.underlying t=some (.slice e)) (hd:P.underlying u=some (.int k))
  (hsz:zfu P e=some size) (hb:zn7 P e=some bytes) (hz:zf5 P e=some z) (hzs:z.cells.size=size) (h0:0 < size) (hb0:0 < bytes) (hs:VRel ρ s s') (hx:VRel ρ x x')
  (hm:appZ size bytes z.cells.toList s x H=some (r,H')):∃ r' w',(Builtin.append_ #[t,u] ty #[s',x']).run P w = .ok r' w'∧zxv N w₀ ρ H w r H' r' w':=by
 unfold appZ at hm
 split at hm
 ·rename_i k2 n
  split at hm
  ·rename_i hc
   obtain⟨hfl,hn0,hc1,hc2⟩:=hc
   have e1:=hx.int_inv;subst e1
   obtain⟨m,rfl⟩:∃ m:Nat,n=m:=⟨n.toNat,by omega⟩
   simp only[Int.toNat_natCast] at hm hc1 hc2
   have hzc:(Builtin.zeroCells z.cells m).toList=rep m z.cells.toList:=zbhx z.cells m (by omega)
   exact z4c h hu hsz hb hz hzs h0 hb0 hs (zbyt (new':=rep m z.cells.toList) hu hd hsz hb hz hb0 h0 hc1 hc2 (by rw[← hzc]) (zbnk (zbeo hfl) m)) (by rw[zv4];simp[hzs]) hm
  ·cases hm
 ·cases hm
theorem zbwn (h:Rel N w₀ ρ H w) {t u ty e:TypeId} {size:Nat} {d d' x x' r:V} {H':Heap} (hu:P.underlying t=some (.slice e)) (hsz:zfu P e=some size) (hd:VRel ρ d d') (hx:VRel ρ x x')
  (hm:cpy size d x H=some (r,H')):∃ r' w',(Builtin.copy_ #[t,u] ty #[d',x']).run P w = .ok r' w'∧zxv N w₀ ρ H w r H' r' w':=by
 unfold cpy at hm
 split at hm
 ·-- nil
   obtain⟨rfl,rfl,rfl⟩:=hd.snil_inv
   split at hm
   ·rename_i a n c
    cases hm
    refine⟨i64 0,w,?_,ρ,.int _ _,h,.refl _ _ _⟩
    generalize x'=x2 at hx
    cases hx <;> simp[Builtin.copy_,run_underlying hu,Builtin.lenOf,zdr hsz w,Builtin.firstCells,loadCells,loadCellsFrom,goInt]
   ·cases hm
    rw[hx.string_inv]
    exact⟨i64 0,w,by simp[Builtin.copy_,run_underlying hu,Builtin.lenOf,zdr hsz w,Builtin.firstCells,goInt],ρ,.int _ _,h,.refl _ _ _⟩
   ·cases hm
 ·rename_i b o u2 dlen dcap
  ·split at hm
   ·rename_i l hl
    split at hm
    ·rename_i cs hb
     split at hm
     ·rename_i hcond
      simp only[Bool.and_eq_true,decide_eq_true_eq,beq_iff_eq] at hcond
      obtain⟨⟨c1,c2⟩,c3⟩:=hcond
      cases hm
      obtain⟨L,co,ccap,ca,hL,rfl,ho,hlen,hcap,hss,hca,_⟩:=hd.slc_inv
      have hsrc:(Builtin.lenOf x').run P w = .ok (zfh x) w∧∃ l',LRel ρ l l'∧(Builtin.firstCells size (Nat.min (zfh x) dlen) x').run P w = .ok l'.toArray w:=by
       unfold zbyg at hl
       split at hl
       ·rename_i str
        cases hl
        rw[hx.string_inv]
        refine⟨by simp[Builtin.lenOf,zfh],(zn6 str).take (Nat.min (zfh (.string str)) dlen),(zbal str).take _,?_⟩
        simp only[Builtin.firstCells,Sem.run_pure]
        congr 1
        apply Array.ext'
        rw[zbf0]
       ·cases hl
        obtain⟨e1,_,rfl⟩:=hx.snil_inv
        exact⟨by simp[Builtin.lenOf,zfh,e1],[],.nil,by simp[Builtin.firstCells]⟩
       ·rename_i b' o' u' ln' cap'
        obtain⟨L',co',ccap',ca',hL',rfl,ho',hln',_,_,hca',_⟩:=hx.slc_inv
        obtain⟨q1,l',q2,q3⟩:=h.cellsAt hl hL'
        refine⟨by simp[Builtin.lenOf,zfh],l',q2,?_⟩
        simp only[Builtin.firstCells]
        rcases hca' with rfl | hz'
        rotate_left
        ·have hz:ln'=0:=by omega
         subst hz
         have hmin:Nat.min (zfh (.slice (some ⟨b',o',some u'⟩) 0 cap')) dlen=0:=by simp[zfh]
         rw[hmin] at q1 ⊢
         have:l'=[]:=List.eq_nil_of_length_eq_zero (by rw[← q2.length,q1];simp)
         rw[this];simp[loadCells,loadCellsFrom]
        rcases ho' with ho' | ho'
        ·subst ho'
         have:=zi5 (P:=P) (b:=L'.blk) (o:=L'.off + o') (l:=l') q3
         rw[← q2.length,q1] at this;exact this
        ·have hz:ln'=0:=by omega
         subst hz
         have hmin:Nat.min (zfh (.slice (some ⟨b',o',some u'⟩) 0 cap')) dlen=0:=by simp[zfh]
         rw[hmin] at q1 ⊢
         have:l'=[]:=List.eq_nil_of_length_eq_zero (by rw[← q2.length,q1];simp)
         rw[this];simp[loadCells,loadCellsFrom]
       ·cases hl
      obtain⟨hlen2,l',hrel,hfc⟩:=hsrc
      have hco:co=L.off + o∨l=[]:=by
       rcases ho with ho | ho
       ·exact .inl ho
       ·right;apply List.eq_nil_of_length_eq_zero;rw[c2];have:dlen=0:=by omega
        subst this;simp
      obtain⟨w',g1,g2,g3⟩:=zbaj (P:=P) (o:=o) h hb hL (vs:=l) (vs':=l') (by omega) hrel (z1d hrel c1)
      have g1':(storeCells ca l').run P w = .ok () w':=by
       rcases hca with rfl | hz0
       rotate_left
       ·have hl0:l=[]:=by
         apply List.eq_nil_of_length_eq_zero;rw[c2];have:dlen=0:=by omega
         subst this;simp
        subst hl0;cases hrel;exact g1
       rcases hco with hco | hco
       ·rw[hco];exact g1
       ·subst hco;cases hrel;exact g1
      refine⟨i64 (Nat.min (zfh x) dlen),w',?_,ρ,.int _ _,g2,g3⟩
      have hfc':=hfc
      simp only[Builtin.copy_,Sem.run_bind]
      simp[run_underlying hu,hlen2,zdr hsz w,goInt]
      rw[hfc']
      simp[g1']
     ·cases hm
    ·cases hm
   ·cases hm
 ·cases hm
theorem zbf1 (h:Rel N w₀ ρ H w) {r:V} {H':Heap} (hm:zvw H=some (r,H')):∃ r' w',(newObj (.map #[] 0)).run P w = .ok w.heap.size w'∧r' = .map (some w.heap.size)∧zxv N w₀ ρ H w r H' r' w':=by
 unfold zvw at hm;cases hm
 obtain⟨g1,g2,g3⟩:=zben h (.map true []) (.map #[] 0) ⟨w.heap.size,0,0⟩ rfl ⟨rfl,#[],0,by show (w.heap.push _)[w.heap.size]? = _;simp,fun _=>⟨h.big,zbpl 0⟩,.nil,.nil⟩
 exact⟨_,_,rfl,rfl,_,.map H.next _ g3,g1,g2⟩
theorem zbmc:∀ {ks:List FK} {xs ys:List V},zqk ks xs ys=some true→∀ n,xs.length=ys.length∧(xs.zip ys).all (fun (x,y)=>Instr.sameBits n x y)=true
 | [],[],[],_,n=>⟨rfl,rfl⟩
 | k :: ks,x :: xs,y :: ys,h,n=>by
  simp only[zqk] at h
  split at h
  ·rename_i hq
   obtain⟨h1,h2⟩:=zbmc h n
   have:Instr.sameBits n x y=true:=by
    cases k <;> cases x <;> cases y <;> simp only[eqK] at hq <;> first | (cases hq;done) | skip
    ·simpa[Instr.sameBits] using hq
    ·split at hq
     ·rename_i hk;subst hk;simpa[Instr.sameBits] using hq
     ·cases hq
    ·simp only[Instr.sameBits,beq_toListBytes,zs9];simpa using hq
   exact⟨by simp[h1],by simp only[List.zip_cons_cons,List.all_cons,this,Bool.true_and];exact h2⟩
  ·cases h
  ·cases h
 | [],[],_ :: _,h,_=>by simp[zqk] at h
 | [],_ :: _,_,h,_=>by simp[zqk] at h
 | _ :: _,[],_,h,_=>by simp[zqk] at h
 | _ :: _,_ :: _,[],h,_=>by simp[zqk] at h
theorem zbmd:∀ {ks:List FK} {xs ys xs' ys':List V},zqk ks xs ys=some true→LRel ρ xs xs'→LRel ρ ys ys'→zqk ks xs' ys'=some true
 | [],[],[],_,_,h,hx,hy=>by cases hx;cases hy;exact h
 | k :: ks,x :: xs,y :: ys,_,_,h,hx,hy=>by
  cases hx with
  | cons hx1 hx2 =>
   cases hy with
   | cons hy1 hy2 =>
    simp only[zqk] at h ⊢
    split at h
    ·rename_i hq
     obtain⟨e1,e2⟩:=zz7 hq hx1 hy1
     rw[e1,e2,hq]
     exact zbmd h hx2 hy2
    ·cases h
    ·cases h
 | [],[],_ :: _,_,_,h,_,_=>by simp[zqk] at h
 | [],_ :: _,_,_,_,h,_,_=>by simp[zqk] at h
 | _ :: _,[],_,_,_,h,_,_=>by simp[zqk] at h
 | _ :: _,_ :: _,[],_,_,h,_,_=>by simp[zqk] at h
theorem zbtj {kk:KK} {a b a' b':V} (h:zvv kk a b=some true) (ha:VRel ρ a a') (hb:VRel ρ b b') (n:Nat):Instr.sameBits (n + 1) b' a'=true:=by
 cases kk with
 | one k =>
  simp only[zvv] at h
  obtain⟨rfl,rfl⟩:=zz7 h ha hb
  cases k <;> cases a' <;> cases b' <;> simp only[eqK] at h <;> first | (cases h;done) | skip
  ·simp at h;simp[Instr.sameBits,h]
  ·split at h
   ·rename_i hk;subst hk;simp at h;simp[Instr.sameBits,h]
   ·cases h
  ·simp at h;simp[Instr.sameBits,h,beq_toListBytes]
 | agg ks =>
  simp only[zvv] at h
  unfold zpt at h
  split at h
  ·obtain⟨A,rfl,hA⟩:=ha.agg_inv
   obtain⟨B,rfl,hB⟩:=hb.agg_inv
   have h':=zbmd h hA hB
   have hsym:∀ {ks:List FK} {xs ys:List V},zqk ks xs ys=some true→zqk ks ys xs=some true:=by
    intro ks
    induction ks with
    | nil=>intro xs ys hq;cases xs <;> cases ys <;> simp_all [zqk]
    | cons k ks ih =>
     intro xs ys hq
     cases xs <;> cases ys <;> simp only[zqk] at hq <;> first | (cases hq;done) | skip
     rename_i x xs y ys
     split at hq
     ·rename_i hq1
      have:eqK k y x=some true:=by
       cases k <;> cases x <;> cases y <;> simp only[eqK] at hq1 <;> first | (cases hq1;done) | skip
       ·simp at hq1;simp[eqK,hq1]
       ·split at hq1
        ·rename_i hk;subst hk;simp at hq1;simp[eqK,hq1]
        ·cases hq1
       ·simp at hq1;simp[eqK,hq1]
      simp only[zqk,this]
      exact ih hq
     ·cases hq
     ·cases hq
   obtain⟨q1,q2⟩:=zbmc (hsym h') n
   simp only[Array.length_toList] at q1
   simp only[Instr.sameBits,q1,beq_self_eq_true,Bool.true_and]
   exact q2
  ·cases h
theorem zbp0 (kk:KK) (k:V):∀ (es:List (V × V)) (i:Nat),zjr kk k es=some (some i)→∃ e,es[i]? = some e∧zvv kk k e.1=some true
 | [],i,h=>by simp[zjr] at h
 | e :: es,i,h=>by
  simp only[zjr] at h
  split at h
  ·rename_i hq;cases h;exact⟨e,rfl,hq⟩
  ·split at h
   ·rename_i j hj;cases h;obtain⟨e',h1,h2⟩:=zbp0 kk k es j hj;exact⟨e',by simpa using h1,h2⟩
   ·cases h
   ·cases h
  ·cases h
theorem zqn {r:Nat} {E E2:Array MapEntry} {c c2:Nat} (h:w.heap[r]? = some (.map E c)):(setObj r (.map E2 c2)).run P w = .ok () { w with heap:=w.heap.setIfInBounds r (.map E2 c2) } := by
 simp[setObj,Sem.run,h]
theorem z4d (h:Rel N w₀ ρ H w) {b:Nat} {es es':List (V × V)} (hb:H.get b=some (.map true es)) {L:Loc} (hL:ρ b=some L) {E':Array MapEntry} {c':Nat} (h0:L.off=0) (hN:N≤L.blk) (hB:Born E' c')
  (h1:LRel ρ (es'.map (·.1)) (E'.toList.map (·.key))) (h2:LRel ρ (es'.map (·.2)) (E'.toList.map (·.val))) (hlt:L.blk < w.heap.size) :
  Rel N w₀ ρ (H.set b (some (.map true es'))) { w with heap:=w.heap.setIfInBounds L.blk (.map E' c') } ∧ Ext ρ H w ρ (H.set b (some (.map true es'))) { w with heap:=w.heap.setIfInBounds L.blk (.map E' c') } := by
 have hold:∀ k,k≠L.blk→({ w with heap:=w.heap.setIfInBounds L.blk (.map E' c') }:World).heap[k]? = w.heap[k]? := fun k hk=>by
  show (w.heap.setIfInBounds L.blk _)[k]? = _
  exact Array.getElem?_setIfInBounds_ne (fun e=>hk e.symm)
 have hnew:({ w with heap:=w.heap.setIfInBounds L.blk (.map E' c') }:World).heap[L.blk]? = some (.map E' c'):=by
  show (w.heap.setIfInBounds L.blk _)[L.blk]? = _
  simp[Array.getElem?_setIfInBounds,hlt]
 refine⟨h.put hb hL hN _ rfl rfl rfl (by simp) hold ⟨h0,E',c',hnew,fun _=>⟨hN,hB⟩,h1,h2⟩,zbu2 h hb hL _ hold (by simp)⟩
theorem zbhz {α β:Type} (g:α→β) (f:α→α) (x:β) (h:∀ e,g (f e)=x) (l:List α) (i:Nat):(l.modify i f).map g=(l.map g).set i x:=by
 apply List.ext_getElem?
 intro j
 simp only[List.getElem?_map,List.getElem?_modify,List.getElem?_set,List.length_map]
 by_cases hj:i=j
 ·subst hj
  by_cases hl:i < l.length
  ·simp[hl,h]
  ·simp[hl,List.getElem?_eq_none (Nat.le_of_not_lt hl)]
 ·simp[hj]
theorem zbp1 {α β:Type} (f:α→β) (l:List α) (i:Nat) (x:α):(l.set i x).map f=(l.map f).set i (f x):=by
 rw[List.map_set]
theorem zbp2 {E:Array MapEntry} {c:Nat} (h:Born E c) (i:Nat) (f:MapEntry→MapEntry) (hf:∀ e,(f e).born=e.born):Born (E.modify i f) c:=by
 have hm:(E.modify i f).toList.map (·.born)=E.toList.map (·.born):=by
  rw[Array.toList_modify]
  apply List.ext_getElem?
  intro j
  simp only[List.getElem?_map,List.getElem?_modify]
  by_cases hj:i=j
  ·subst hj;cases E.toList[i]? <;> simp[hf]
  ·simp[hj]
 refine⟨?_,fun e he=>?_⟩
 ·have:=List.pairwise_map.2 h.1
  rw[← hm] at this
  exact List.pairwise_map.1 this
 ·have:e.born∈E.toList.map (·.born):=by rw[← hm];exact List.mem_map_of_mem he
  obtain⟨e2,h2,h3⟩:=List.mem_map.1 this
  rw[← h3];exact h.2 e2 h2
theorem zbwo {E:Array MapEntry} {c:Nat} (h:Born E c) (e:MapEntry) (he:e.born=c):Born (E.push e) (c + 1):=by
 refine⟨?_,fun x hx=>?_⟩
 ·rw[Array.toList_push]
  refine List.pairwise_append.2 ⟨h.1,by simp,fun a ha b hb=>?_⟩
  simp only[List.mem_singleton] at hb;subst hb
  rw[he];exact h.2 a ha
 ·rw[Array.toList_push,List.mem_append] at hx
  rcases hx with hx | hx
  ·have:=h.2 x hx;omega
  ·simp only[List.mem_singleton] at hx;subst hx;omega
theorem zbtk {E E':Array MapEntry} {c i:Nat} (h:Born E c) (he:E'.toList=E.toList.eraseIdx i):Born E' c:=by
 have hs:List.Sublist (E.toList.eraseIdx i) E.toList:=List.eraseIdx_sublist _ _
 refine⟨?_,fun e hm=>?_⟩
 ·rw[he];exact h.1.sublist hs
 ·rw[he] at hm;exact h.2 e (hs.subset hm)
theorem zbb8 (h:Rel N w₀ ρ H w) {kk:KK} {m k v m' k' v' r:V} {H':Heap} {t kt et:TypeId} (hu:P.underlying t=some (.map kt et)) (hf:z8c P kt=some kk)
  (hl:zgm kk m k v H=some (r,H')) (hm:VRel ρ m m') (hk:VRel ρ k k') (hv:VRel ρ v v') :
  r=undef∧∃ w',(Instr.mapUpdate t m' k' v').run P w = .ok () w'∧Rel N w₀ ρ H' w'∧Ext ρ H w ρ H' w':=by
 unfold zgm at hl
 split at hl
 ·rename_i hcond
  simp only[Bool.and_eq_true] at hcond
  have hck:=fun em=>z4a hf hk hcond.1.1 em w
  split at hl
  ·rename_i b
   split at hl
   ·rename_i es hb
    have hm2:∃ L,ρ b=some L∧m' = .map (some L.blk):=by cases hm;exact⟨_,by assumption,rfl⟩
    obtain⟨L,hL,rfl⟩:=hm2
    obtain⟨E,clk,h1,hN,h0,h2,h3⟩:=h.map hb hL
    have hlt:=h.lt hb hL
    split at hl
    ·rename_i i hi
     cases hl
     have hfk:=zpa hf hk es E.toList (some i) h2 hi w
     have hlt2:=zbb6 kk k es i hi
     have hlE:i < E.size:=by have:=h2.length;simp at this;omega
     obtain⟨e,he,hq⟩:=zbp0 kk k es i hi
     have hke:VRel ρ e.1 E[i].key:=by
      obtain⟨x',hx',hrel⟩:=h2.get i e.1 (by simp[he])
      have:E[i].key=x':=by simpa[hlE] using hx'
      rw[this];exact hrel
     have hstay:(Instr.keyThatStays E[i].key k').run P w = .ok k' w:=by
      have:Instr.sameBits 10000 E[i].key k'=true:=zbtj hq hk hke 9999
      simp[Instr.keyThatStays,this]
     have hbind:(some i).bind (fun j=>(E.toList[j]?).map fun e=>(j,e.val))=some (i,E[i].val):=by simp[hlE]
     rw[hbind] at hfk
     obtain⟨g1,g2⟩:=z4d h hb hL (es':=es.set i (k,v)) (E':=E.modify i fun e=>{ e with key:=k',val:=v' }) (c':=clk) h0 (hN rfl).1 (zbp2 (hN rfl).2 _ _ fun _=>rfl)
      (by rw[zbp1,Array.toList_modify,zbhz _ _ k' (fun _=>rfl)];exact h2.set hk i)
      (by rw[zbp1,Array.toList_modify,zbhz _ _ v' (fun _=>rfl)];exact h3.set hv i) hlt
     refine⟨rfl,_,?_,g1,g2⟩
     have hei:E[i]? = some E[i]:=by simp[hlE]
     simp[Instr.mapUpdate,run_underlying hu,zhg h1,hck,hfk,hei,hstay,zqn h1]
    ·rename_i hi
     cases hl
     have hfk:=zpa hf hk es E.toList none h2 hi w
     obtain⟨g1,g2⟩:=z4d h hb hL (es':=es ++ [(k,v)]) (E':=E.push { key:=k',val:=v',born:=clk }) (c':=clk + 1) h0 (hN rfl).1 (zbwo (hN rfl).2 _ rfl)
      (by simpa using h2.append (.cons hk .nil)) (by simpa using h3.append (.cons hv .nil)) hlt
     refine⟨rfl,_,?_,g1,g2⟩
     simp[Instr.mapUpdate,run_underlying hu,zhg h1,hck,hfk,zqn h1]
    ·cases hl
   ·cases hl
  ·cases hl
 ·cases hl
theorem zqo {α β:Type} (f:α→β):∀ (l:List α) (i:Nat),(l.eraseIdx i).map f=(l.map f).eraseIdx i
 | [],i=>by simp
 | x :: l,0=>by simp
 | x :: l,i + 1=>by simp[zqo f l i]
theorem LRel.eraseIdx {l l':List V} (h:LRel ρ l l'):∀ n,LRel ρ (l.eraseIdx n) (l'.eraseIdx n):=by
 induction h with
 | nil=>intro n;simp;exact .nil
 | cons h g ih=>intro n;cases n with
  | zero=>simpa using g
  | succ n=>simp;exact .cons h (ih n)
theorem zbp3 (h:Rel N w₀ ρ H w) {b:Nat} {es:List (V × V)} (hb:H.get b=some (.map true es)) {L:Loc} (hL:ρ b=some L) {E:Array MapEntry} {c:Nat} (h1:w.heap[L.blk]? = some (.map E c)) :
  ({ w with heap:=w.heap.setIfInBounds L.blk (.map E c) }:World)=w:=by
 have:w.heap.setIfInBounds L.blk (.map E c)=w.heap:=by
  apply Array.ext_getElem?
  intro k
  by_cases hk:k=L.blk
  ·subst hk;rw[h1];have:=h.lt hb hL;simp[Array.getElem?_setIfInBounds,this]
  ·exact Array.getElem?_setIfInBounds_ne (fun e=>hk e.symm)
 rw[this]
theorem zbnm (h:Rel N w₀ ρ H w) {kk:KK} {m k m' k' r:V} {H':Heap} {t u ty kt et:TypeId} (hu:P.underlying t=some (.map kt et)) (hf:z8c P kt=some kk)
  (hl:zbs1 kk m k H=some (r,H')) (hm:VRel ρ m m') (hk:VRel ρ k k') :
  r=undef∧∃ w',(Builtin.delete_ #[t,u] ty #[m',k']).run P w = .ok (.tuple #[]) w'∧Rel N w₀ ρ H' w'∧Ext ρ H w ρ H' w':=by
 unfold zbs1 at hl
 split at hl
 ·rename_i hcond
  have hck:=fun em=>z4a hf hk hcond em w
  split at hl
  ·cases hl
   have:m' = .map none:=by cases hm;rfl
   subst this
   exact⟨rfl,w,by simp[Builtin.delete_,run_underlying hu,hck],h,.refl _ _ _⟩
  ·rename_i b
   split at hl
   ·rename_i es hb
    have hm2:∃ L,ρ b=some L∧m' = .map (some L.blk):=by cases hm;exact⟨_,by assumption,rfl⟩
    obtain⟨L,hL,rfl⟩:=hm2
    obtain⟨E,clk,h1,hN,h0,h2,h3⟩:=h.map hb hL
    have hlt:=h.lt hb hL
    split at hl
    ·rename_i i hi
     cases hl
     have hfk:=zpa hf hk es E.toList (some i) h2 hi w
     have hlt2:=zbb6 kk k es i hi
     have hlE:i < E.size:=by have:=h2.length;simp at this;omega
     have hbind:(some i).bind (fun j=>(E.toList[j]?).map fun e=>(j,e.val))=some (i,E[i].val):=by simp[hlE]
     rw[hbind] at hfk
     have hto:(E.eraseIdxIfInBounds i).toList=E.toList.eraseIdx i:=by simp[Array.eraseIdxIfInBounds,hlE]
     obtain⟨g1,g2⟩:=z4d h hb hL (es':=es.eraseIdx i) (E':=E.eraseIdxIfInBounds i) (c':=clk) h0 (hN rfl).1 (zbtk (hN rfl).2 hto)
      (by rw[hto,zqo,zqo];exact h2.eraseIdx i) (by rw[hto,zqo,zqo];exact h3.eraseIdx i) hlt
     refine⟨rfl,_,?_,g1,g2⟩
     simp[Builtin.delete_,run_underlying hu,zhg h1,hck,hfk,zqn h1]
    ·rename_i hi
     cases hl
     have hfk:=zpa hf hk es E.toList none h2 hi w
     refine⟨rfl,w,?_,h,.refl _ _ _⟩
     simp[Builtin.delete_,run_underlying hu,zhg h1,hck,hfk,zqn h1,zbp3 h hb hL h1]
    ·cases hl
   ·cases hl
  ·cases hl
 ·cases hl
end Go.AM

/- Operations that make and write memory: all of them. -/
namespace Go.AM
open Go.RowKit (Below)
variable {P:Program} {N:Nat} {w₀:World} {ρ:Ren} {H:Heap} {w:World}
def zb36 (nx:Next) (r':V):Prop:=nx = .value r'∨(nx = .skip∧r'=undef)
theorem z0a {r:V} {H':Heap} {w':World} (h:Rel N w₀ ρ H' w') (g:Ext ρ H w ρ H' w') (hr:r=undef):zxv N w₀ ρ H w r H' undef w':=by
 subst hr;exact⟨ρ,.undef _,h,g⟩
theorem zbwp (h:Rel N w₀ ρ H w) {e c:Operand→V} (hr:∀ z,VRel ρ (e z) (c z)) (o:Oper) {r:V} {H':Heap} (hl:actM P e o.op H=some (r,H')) :
  ∃ nx r' w',(execOp c o).run P w = .ok nx w'∧zb36 nx r'∧zxv N w₀ ρ H w r H' r' w':=by
 obtain⟨dst,op,ty,pos,after,guard⟩:=o
 simp only at hl
 cases op <;> simp only[actM] at hl <;> first | exact (z6 hl).elim | skip
 case alloc el =>
  cases hz:zf5 P el with
  | none=>simp only[hz] at hl;exact (z6 hl).elim
  | some z =>
   simp only[hz] at hl
   obtain⟨r',w',g1,g2⟩:=zbtc (P:=P) h hz hl
   exact⟨.value r',r',w',by simp[execOp,g1],.inl rfl,g2⟩
 case box el x =>
  cases hb:bldT P el with
  | true =>
   rw[hb] at hl
   obtain⟨r',w',g1,g2⟩:=zbte (P:=P) (t:=el) h (hr x) hl
   exact⟨.value r',r',w',by simp[execOp,g1],.inl rfl,g2⟩
  | false =>
   rw[hb] at hl
   obtain⟨r',w',g1,g2⟩:=zbtd (P:=P) (t:=el) h (hr x) hl
   exact⟨.value r',r',w',by simp[execOp,g1],.inl rfl,g2⟩
 case buildSlice t len parts =>
  generalize hu:P.underlying t=d at hl
  split at hl
  all_goals first | exact (z6 hl).elim | skip
  rename_i el
  generalize hs:zfu P el=s at hl
  generalize hz:zf5 P el=z at hl
  split at hl
  all_goals first | exact (z6 hl).elim | skip
  rename_i n z
  split at hl
  all_goals first | exact (z6 hl).elim | skip
  rename_i hc
  obtain⟨r',w',g1,g2⟩:=zbtf (P:=P) h hr hu hs hz hc.1 hc.2.1 hc.2.2 hl
  exact⟨.value r',r',w',by simp[execOp,g1],.inl rfl,g2⟩
 case store t a x =>
  cases hk:tk P t with
  | none=>simp only[hk] at hl;exact (z6 hl).elim
  | some k =>
   cases k with
   | one =>
    simp only[hk] at hl
    obtain⟨g0,w',g1,g2,g3⟩:=zbwg (P:=P) h hk hl (hr a) (hr x)
    exact⟨.skip,undef,w',by simp[execOp,g1],.inr ⟨rfl,rfl⟩,z0a g2 g3 g0⟩
   | agg n =>
    simp only[hk] at hl
    obtain⟨g0,w',g1,g2,g3⟩:=zbwh (P:=P) h hk hl (hr a) (hr x)
    exact⟨.skip,undef,w',by simp[execOp,g1],.inr ⟨rfl,rfl⟩,z0a g2 g3 g0⟩
 case convert src dst x =>
  generalize hs:P.underlying src=s at hl
  generalize hd:P.underlying dst=d at hl
  split at hl
  all_goals first | exact (z6 hl).elim | skip
  rename_i el
  generalize hel:P.underlying el=ed at hl
  split at hl
  all_goals first | exact (z6 hl).elim | skip
  obtain⟨s,r',w',g0,g1,g2⟩:=zbwm (P:=P) (e:=el) h (hr x) hl
  refine⟨.value r',r',w',?_,.inl rfl,g2⟩
  simp[execOp,convert,run_underlying hs,run_underlying hd,g0,run_underlying hel,g1]
 case insert t m k v =>
  generalize hu:P.underlying t=d at hl
  split at hl
  all_goals first | exact (z6 hl).elim | skip
  rename_i kt et
  generalize hkk:z8c P kt=kk at hl
  split at hl
  all_goals first | exact (z6 hl).elim | skip
  obtain⟨g0,w',g1,g2,g3⟩:=zbb8 (P:=P) h hu hkk hl (hr m) (hr k) (hr v)
  exact⟨.skip,undef,w',by simp[execOp,g1],.inr ⟨rfl,rfl⟩,z0a g2 g3 g0⟩
 case makeMap t reserve =>
  cases reserve with
  | none =>
   obtain⟨r',w',g1,g2,g3⟩:=zbf1 (P:=P) h hl
   refine⟨.value r',r',w',?_,.inl rfl,g3⟩
   simp only[execOp,Instr.makeMap,Option.map_none,Sem.run_bind,Sem.run_pure,Result.andThen_ok,g1,g2]
  | some hint =>
   simp only at hl
   generalize hu:P.underlying t=d at hl
   generalize hh:e hint=q at hl
   split at hl
   all_goals first | exact (z6 hl).elim | skip
   have hq:=hr hint
   rw[hh] at hq
   obtain⟨r',w',g1,g2,g3⟩:=zbf1 (P:=P) h hl
   refine⟨.value r',r',w',?_,.inl rfl,g3⟩
   simp only[execOp,Instr.makeMap,Option.map_some,Sem.run_bind,Sem.run_pure,Result.andThen_ok,run_underlying hu,hq.int_inv,asInt,asIntOf,g1,g2]
 case makeSlice t l k =>
  generalize hu:P.underlying t=d at hl
  split at hl
  all_goals first | exact (z6 hl).elim | skip
  rename_i el
  generalize hs:zfu P el=s at hl
  generalize hb:zn7 P el=b at hl
  generalize hz:zf5 P el=z at hl
  split at hl
  all_goals first | exact (z6 hl).elim | skip
  split at hl
  all_goals first | exact (z6 hl).elim | skip
  rename_i hc
  obtain⟨r',w',g1,g2⟩:=zbpz (P:=P) h hu hs hb hz hc.1 hc.2 (hr l) (hr k) hl
  exact⟨.value r',r',w',by simp[execOp,g1],.inl rfl,g2⟩
 case mapUpdate t m k v =>
  generalize hu:P.underlying t=d at hl
  split at hl
  all_goals first | exact (z6 hl).elim | skip
  rename_i kt et
  generalize hkk:z8c P kt=kk at hl
  split at hl
  all_goals first | exact (z6 hl).elim | skip
  obtain⟨g0,w',g1,g2,g3⟩:=zbb8 (P:=P) h hu hkk hl (hr m) (hr k) (hr v)
  exact⟨.skip,undef,w',by simp[execOp,g1],.inr ⟨rfl,rfl⟩,z0a g2 g3 g0⟩
 case call cl =>
  obtain⟨callee,args,argTypes⟩:=cl
  simp only at hl
  cases callee <;> simp only at hl <;> first | exact (z6 hl).elim | skip
  rename_i b
  obtain⟨args⟩:=args
  obtain⟨ts⟩:=argTypes
  simp only[actB] at hl
  split at hl
  all_goals first | exact (z6 hl).elim | skip
  ·rename_i s x t u
   generalize hu:P.underlying t=d at hl
   split at hl
   all_goals first | exact (z6 hl).elim | skip
   rename_i el
   generalize hs:zfu P el=sz at hl
   generalize hb:zn7 P el=by_ at hl
   generalize hz:zf5 P el=z at hl
   split at hl
   all_goals first | exact (z6 hl).elim | skip
   split at hl
   all_goals first | exact (z6 hl).elim | skip
   rename_i hc
   generalize hd:P.underlying u=du at hl
   split at hl
   all_goals first | exact (z6 hl).elim | skip
   ·obtain⟨r',w',g1,g2⟩:=zbtg (P:=P) (ty:=ty) h hu hd hs hb hz hc.1 hc.2.1 hc.2.2 (hr s) (hr x) hl
    exact⟨.value r',r',w',by simp[execOp,resolve,invoke,builtin,g1],.inl rfl,g2⟩
   ·split at hl
    all_goals first | exact (z6 hl).elim | skip
    rename_i h1
    obtain⟨rfl,rfl⟩:=h1
    obtain⟨r',w',g1,g2⟩:=zbth (P:=P) (ty:=ty) h hu hd hs hb hz hc.1 (hr s) (hr x) hl
    exact⟨.value r',r',w',by simp[execOp,resolve,invoke,builtin,g1],.inl rfl,g2⟩
   ·obtain⟨r',w',g1,g2⟩:=zbti (P:=P) (ty:=ty) h hu hd hs hb hz hc.1 hc.2.1 hc.2.2 (hr s) (hr x) hl
    exact⟨.value r',r',w',by simp[execOp,resolve,invoke,builtin,g1],.inl rfl,g2⟩
  ·rename_i d x t u
   generalize hu:P.underlying t=dt at hl
   split at hl
   all_goals first | exact (z6 hl).elim | skip
   rename_i el
   generalize hs:zfu P el=sz at hl
   split at hl
   all_goals first | exact (z6 hl).elim | skip
   obtain⟨r',w',g1,g2⟩:=zbwn (P:=P) (u:=u) (ty:=ty) h hu hs (hr d) (hr x) hl
   exact⟨.value r',r',w',by simp[execOp,resolve,invoke,builtin,g1],.inl rfl,g2⟩
  ·rename_i m k t u
   generalize hu:P.underlying t=dt at hl
   split at hl
   all_goals first | exact (z6 hl).elim | skip
   rename_i kt et
   generalize hkk:z8c P kt=kk at hl
   split at hl
   all_goals first | exact (z6 hl).elim | skip
   obtain⟨g0,w',g1,g2,g3⟩:=zbnm (P:=P) (u:=u) (ty:=ty) h hu hkk hl (hr m) (hr k)
   exact⟨.value undef,undef,w',by simp[execOp,resolve,invoke,builtin,g1,undef],.inl rfl,z0a g2 g3 g0⟩
theorem zbyu (hN:N≤w.heap.size) {e c:Operand→V} (hr:∀ z,VRel ρ (e z) (c z)) (o:Oper) (hmk:isMk P o.op=true) {v:V} {K:Heap} (hl:actM P e o.op Heap.none0=some (v,K)) :
  ∃ x,K=Heap.one x∧∃ r' w',(execOp c o).run P w = .ok (.value r') w'∧MkOK N ρ w v x r' w':=by
 obtain⟨dst,op,ty,pos,after,guard⟩:=o
 simp only at hl hmk
 cases op <;> simp only[isMk] at hmk <;> first | (cases hmk;done) | skip
 all_goals simp only[actM] at hl
 case alloc el =>
  cases hz:zf5 P el with
  | none=>simp only[hz] at hl;exact (z6 hl).elim
  | some z =>
   simp only[hz] at hl
   obtain⟨x,hx,r',w',g1,g2⟩:=zbu3 (P:=P) (ρ:=ρ) hN hz hl
   exact⟨x,hx,r',w',by simp[execOp,g1],g2⟩
 case box el y =>
  cases hb:bldT P el with
  | true =>
   rw[hb] at hl
   obtain⟨x,hx,r',w',g1,g2⟩:=zbu5 (P:=P) (t:=el) hN (hr y) hl
   exact⟨x,hx,r',w',by simp[execOp,g1],g2⟩
  | false =>
   rw[hb] at hl
   obtain⟨x,hx,r',w',g1,g2⟩:=zbu4 (P:=P) (t:=el) hN (hr y) hl
   exact⟨x,hx,r',w',by simp[execOp,g1],g2⟩
 case buildSlice t len parts =>
  generalize hu:P.underlying t=d at hl
  split at hl
  all_goals first | exact (z6 hl).elim | skip
  rename_i el
  generalize hs:zfu P el=s at hl
  generalize hz:zf5 P el=z at hl
  split at hl
  all_goals first | exact (z6 hl).elim | skip
  rename_i n z
  split at hl
  all_goals first | exact (z6 hl).elim | skip
  rename_i hc
  obtain⟨x,hx,r',w',g1,g2⟩:=zbu7 (P:=P) (t:=t) hN hr hu hs hz hc.1 hc.2.1 hc.2.2 hl
  exact⟨x,hx,r',w',by simp[execOp,g1],g2⟩
 case convert src dst y =>
  generalize hs:P.underlying src=s at hl
  generalize hd:P.underlying dst=d at hl
  split at hl
  all_goals first | exact (z6 hl).elim | skip
  rename_i el
  generalize hel:P.underlying el=ed at hl
  split at hl
  all_goals first | exact (z6 hl).elim | skip
  obtain⟨x,hx,s,r',w',g0,g1,g2⟩:=zbyp (P:=P) (e:=el) hN (hr y) hl
  refine⟨x,hx,r',w',?_,g2⟩
  simp[execOp,convert,run_underlying hs,run_underlying hd,g0,run_underlying hel,g1]
 case makeMap t reserve =>
  cases reserve with
  | none =>
   simp only[zvw] at hl;cases hl
   refine⟨.map true [],rfl,.map (some w.heap.size),w.alloc (.map #[] 0),?_,zbpy hN⟩
   simp only[execOp,Instr.makeMap,Option.map_none,Sem.run_bind,Sem.run_pure,Result.andThen_ok,run_newObj];rfl
  | some hint =>
   simp only at hl
   generalize hu:P.underlying t=d at hl
   generalize hh:e hint=q at hl
   split at hl
   all_goals first | exact (z6 hl).elim | skip
   have hq:=hr hint
   rw[hh] at hq
   simp only[zvw] at hl;cases hl
   refine⟨.map true [],rfl,.map (some w.heap.size),w.alloc (.map #[] 0),?_,zbpy hN⟩
   simp only[execOp,Instr.makeMap,Option.map_some,Sem.run_bind,Sem.run_pure,Result.andThen_ok,run_underlying hu,hq.int_inv,asInt,asIntOf,run_newObj];rfl
 case makeSlice t l k =>
  generalize hu:P.underlying t=d at hl
  split at hl
  all_goals first | exact (z6 hl).elim | skip
  rename_i el
  generalize hs:zfu P el=s at hl
  generalize hb:zn7 P el=b at hl
  generalize hz:zf5 P el=z at hl
  split at hl
  all_goals first | exact (z6 hl).elim | skip
  split at hl
  all_goals first | exact (z6 hl).elim | skip
  rename_i hc
  obtain⟨x,hx,r',w',g1,g2⟩:=zbpw (P:=P) (t:=t) hN hu hs hb hz hc.1 hc.2 (hr l) (hr k) hl
  exact⟨x,hx,r',w',by simp[execOp,g1],g2⟩
def SimF (P:Program) (f:FuncId) (F:List V→M V):Prop :=
 ∀ (N:Nat) (w₀:World) (ρ:Ren) (H:Heap) (w:World) (args args':List V) (r:V) (H':Heap),P.globals.size≤N→Rel N w₀ ρ H w→LRel ρ args args'→F args H=some (r,H') →
  Calls P f args'.toArray w fun e w'=>∃ r',e = .returned r'∧zxv N w₀ ρ H w r H' r' w'
def zv5 (P:Program) (f:FuncId):Bool:=match P.funcs[f]? with
 | some fn=>fn.name != "runtime.NumGoroutine" && fn.body.isSome
 | none=>false
theorem zbb9 {f:FuncId} (hp:zv5 P f=true) (args:Array V) (w:World):(callFunc f args).run P w = .ok (.enter f args) w:=by
 unfold zv5 at hp
 split at hp
 ·rename_i fn hfn
  simp only[Bool.and_eq_true,bne_iff_ne,ne_eq,Option.isSome_iff_exists] at hp
  obtain⟨h1,c,h2⟩:=hp
  simp[callFunc,hfn,h1,h2]
 ·cases hp
def zd8 (P:Program) (σ:zx):Prop:=∀ f args H r H',σ f args H=some (r,H')→zv5 P f=true∧SimF P f (σ f)
theorem zban {en:Env} {c:Operand→V} (hr:∀ z,VRel ρ (evO P en z) (c z)):∀ l:List Operand,LRel ρ (zbad P en l) (l.map c)
 | [] => .nil
 | x :: xs => .cons (hr x) (zban hr xs)
theorem zbtl {σ:zx} (hσ:zd8 P σ) (hG:P.globals.size≤N) (h:Rel N w₀ ρ H w) {f f':V} {args args':List V} {r:V} {H':Heap} (hf:VRel ρ f f') (ha:LRel ρ args args') (hl:znw σ f args H=some (r,H')) (c:Call) (cv:Operand→V) (fo:Operand) (ty:TypeId)
  (hc:c.callee = .value fo) (hfo:cv fo=f') (hargs:(c.args.map cv).toList=args') :
  ∃ g gargs,((do let d ← resolve cv c ty;invoke d.target d.args):Sem Next).run P w = .ok (.enter g gargs) w∧Calls P g gargs w fun e w'=>∃ r',e = .returned r'∧zxv N w₀ ρ H w r H' r' w':=by
 unfold znw at hl
 split at hl
 ·rename_i g x y
  have hfi:∃ x' y',f' = .func (.func g) x' y'∧LRel ρ x.toList x'.toList∧LRel ρ y.toList y'.toList:=by
   cases hf;exact⟨_,_,rfl,arel (by assumption) (by assumption),arel (by assumption) (by assumption)⟩
  obtain⟨x',y',rfl,hx,hy⟩:=hfi
  obtain⟨hp,hs⟩:=hσ _ _ _ _ _ hl
  have hall:LRel ρ (x.toList ++ (args ++ y.toList)) (x'.toList ++ (args' ++ y'.toList)):=hx.append (ha.append hy)
  refine⟨g,(x'.toList ++ (args' ++ y'.toList)).toArray,?_,hs N w₀ ρ H w _ _ r H' hG h hall hl⟩
  have harr:c.args.map cv=args'.toArray:=by apply Array.ext';simpa using hargs
  simp only[resolve,hc,hfo,harr,Deferred.ofValue,Sem.run_bind,Sem.run_pure,Result.andThen_ok,invoke]
  rw[zbb9 hp]
  congr 2
  apply Array.ext'
  simp
 ·exact (z6 hl).elim
theorem zbtm {t:TypeId} {name:String} {f:FuncId} (h:zbyl P t name=some f) (k:Nat) (v:V) (w:World):(method (k + 1) t v name).run P w = .ok (f,v) w:=by
 unfold zbyl at h
 split at h
 ·rename_i i u hi hu
  split at h
  ·rename_i m hm
   split at h
   ·rename_i f' pr hf
    split at h
    ·rename_i hc
     cases h
     simp only[Bool.and_eq_true,beq_iff_eq] at hc
     obtain⟨h1,h2⟩:=hc
     have hp:m.path.toList=[]:=by simpa using h1
     have ht:(typeInfo t).run P w = .ok i w:=by simp[typeInfo,hi]
     simp only[method,Sem.run_bind,ht,Result.andThen_ok,hm,hp,follow,Sem.run_pure,hf,receiverAt,run_underlying hu,Place.get]
     subst h2
     cases u <;> simp[Place.get,zbyk]
    ·cases h
   ·cases h
  ·cases h
 ·cases h
theorem zbwq {σ:zx} (hσ:zd8 P σ) (hG:P.globals.size≤N) (h:Rel N w₀ ρ H w) {v v':V} {name:String} {args args':List V} {r:V} {H':Heap} (hv:VRel ρ v v') (ha:LRel ρ args args') (hl:invM P σ v name args H=some (r,H')) (c:Call) (cv:Operand→V) (fo:Operand) (ty:TypeId)
  (hc:c.callee = .invoke fo name) (hfo:cv fo=v') (hargs:(c.args.map cv).toList=args') :
  ∃ g gargs,((do let d ← resolve cv c ty;invoke d.target d.args):Sem Next).run P w = .ok (.enter g gargs) w∧Calls P g gargs w fun e w'=>∃ r',e = .returned r'∧zxv N w₀ ρ H w r H' r' w':=by
 unfold invM at hl
 cases hi:invG P v name with
 | none=>rw[hi] at hl;exact (z6 (H:=H) hl).elim
 | some q =>
  rw[hi] at hl
  unfold invG at hi
  split at hi
  ·rename_i t x
   have hx:∃ x',v' = .iface t x'∧VRel ρ x x':=by cases hv;exact⟨_,rfl,by assumption⟩
   obtain⟨x',rfl,hx⟩:=hx
   obtain⟨g,hg,rfl⟩:=Option.map_eq_some_iff.1 hi
   change σ g (x :: args) H=some (r,H') at hl
   obtain⟨hp,hs⟩:=hσ _ _ _ _ _ hl
   refine⟨g,(x' :: args').toArray,?_,hs N w₀ ρ H w _ _ r H' hG h (.cons hx ha) hl⟩
   have harr:c.args.map cv=args'.toArray:=by apply Array.ext';simpa using hargs
   simp only[resolve,hc,hfo,harr,Sem.run_bind,Sem.run_pure,Result.andThen_ok,invoke]
   have h0:(#[Value.iface t x'] ++ args'.toArray)[0]? = some (.iface t x'):=by simp
   have h1:(#[Value.iface t x'] ++ args'.toArray).extract 1 (#[Value.iface t x'] ++ args'.toArray).size=args'.toArray:=by apply Array.ext';simp
   have hpr:(program).run P w = .ok P w:=rfl
   simp only[h0,h1,callMethod,Sem.run_bind,hpr,Result.andThen_ok]
   rw[show P.types.size + Made.depth=(P.types.size + 99) + 1 from rfl,zbtm hg]
   simp only[Result.andThen_ok]
   rw[zbb9 hp]
   congr 2
   apply Array.ext'
   simp
  ·cases hi
end Go.AM
