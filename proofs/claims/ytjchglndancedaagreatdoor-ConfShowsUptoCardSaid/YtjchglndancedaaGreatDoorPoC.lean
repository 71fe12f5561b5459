import Derived.Test.YtjchglndancedaaGreatDoorPoB
import Derived.Test.YtjchglndancedaaGreatDoorAmIn
set_option linter.all false
/- ports: the box -/
set_option maxHeartbeats 8000000
namespace Go.AM.Cap
open Go.AM Go.Proofs
structure SV where
 a:Option Addr
 n:Nat
 c:Nat
def SV.v (s:SV):V := .slice s.a s.n s.c
theorem SV.isOne (s:SV):s.v.isOne=true:=rfl
theorem Seg.sv {H:Heap} {v:V} {l:List V} (h:Seg H v l):∃ s:SV,v=s.v:=by
 obtain⟨a,c,rfl⟩:=h.form;exact⟨⟨a,l.length,c⟩,rfl⟩
structure GS where
 S:SV
 T:SV
 s:List Int
 t:List Int
 age:Int
 lost:Int
instance:Inhabited GS:=⟨⟨⟨none,0,0⟩,⟨none,0,0⟩,[],[],0,0⟩⟩
def GS.cells (g:GS):List V:=[g.S.v,g.T.v,i64 g.age,i64 g.lost]
instance:Flat GS:=⟨4,GS.cells,fun _=>rfl,fun _=>rfl,by decide⟩
section
variable {gs:List GS} {i:Nat} {g:GS}
end
def GS.fp (g:GS):List Nat:=vb g.S.v ++ vb g.T.v
structure PSt where
 s:List Int
 t:List Int
 age:Int
 lost:Int
 deriving DecidableEq,Inhabited
def GS.st (g:GS):PSt:=⟨g.s,g.t,g.age,g.lost⟩
structure BoxV (H:Heap) (p:Nat) (lv:V) (sb:Nat) (ls:List Port) (gs:List GS):Prop where
 obj:H.get p=some (.cells true [lv,slc sb 0 4 gs.length gs.length])
 ports:Sl H lv ls
 len:gs.length=ls.length
 states:H.get sb=some (.cells true (zbj gs))
 segS:∀ (i:Nat) (g:GS),gs[i]? = some g→Seg H g.S.v (g.s.map i64)
 segT:∀ (i:Nat) (g:GS),gs[i]? = some g→Seg H g.T.v (g.t.map i64)
 dST:∀ (i:Nat) (g:GS),gs[i]? = some g→∀ b∈vb g.S.v,b ∉ vb g.T.v
 dis:∀ (i j:Nat) (g g':GS),gs[i]? = some g→gs[j]? = some g'→i≠j→∀ b∈g.fp,b ∉ g'.fp
 own:∀ (i:Nat) (g:GS),gs[i]? = some g→∀ b∈g.fp,b≠p∧b≠sb∧b ∉ vb lv
 pse:p≠sb
 plv:p ∉ vb lv
 slv:sb ∉ vb lv
 sz:∀ (i:Nat) (g:GS),gs[i]? = some g→g.s.length≤16∧g.t.length≤16
 small:ls.length≤16
 good:∀ q∈ls,zlf q=0
def foot (p sb:Nat) (lv:V) (gs:List GS):List Nat:=p :: sb :: (vb lv ++ gs.flatMap GS.fp)
theorem z8a {p sb:Nat} {lv:V} {gs:List GS} {i:Nat} {g:GS} (h:gs[i]? = some g) {b:Nat} (hb:b∈g.fp):b∈foot p sb lv gs:=by
 simp only[foot,List.mem_cons,List.mem_append,List.mem_flatMap]
 exact .inr (.inr (.inr ⟨g,List.mem_of_getElem? h,hb⟩))
section
variable {H H':Heap} {p sb:Nat} {lv:V} {ls:List Port} {gs:List GS}
theorem BoxV.lt (h:BoxV H p lv sb ls gs):∀ b∈foot p sb lv gs,b < H.next:=by
 intro b hb
 simp only[foot,List.mem_cons,List.mem_append,List.mem_flatMap] at hb
 rcases hb with rfl | rfl | hb | ⟨g,hg,hb⟩
 ·exact Heap.get_lt h.obj
 ·exact Heap.get_lt h.states
 ·exact h.ports.lt b hb
 ·obtain⟨i,hi⟩:=List.getElem?_of_mem hg
  simp only[GS.fp,List.mem_append] at hb
  rcases hb with hb | hb
  ·exact (h.segS i g hi).lt b hb
  ·exact (h.segT i g hi).lt b hb
theorem BoxV.same (h:BoxV H p lv sb ls gs) (hs:∀ b∈foot p sb lv gs,H'.get b=H.get b) (hn:H.next≤H'.next):BoxV H' p lv sb ls gs:=by
 have hp:=hs p (by simp[foot])
 have hsb:=hs sb (by simp[foot])
 refine⟨by rw[hp];exact h.obj,?_,h.len,by rw[hsb];exact h.states,fun i g hi=>?_,fun i g hi=>?_,h.dST,h.dis,h.own,h.pse,h.plv,h.slv,h.sz,h.small,h.good⟩
 ·rcases h.ports with q | ⟨b,o,u,c,rfl,hc,hb,hl,hu⟩
  ·exact .inl q
  ·refine .inr ⟨b,o,u,c,rfl,hc,Nat.lt_of_lt_of_le hb hn,?_,hu⟩
   rcases hl with hl | ⟨rw,cs,h1,h2⟩
   ·exact .inl hl
   ·exact .inr ⟨rw,cs,by rw[hs b (by simp[foot])];exact h1,h2⟩
 ·exact (h.segS i g hi).same fun b hb=>hs b (z8a hi (by simp[GS.fp,hb]))
 ·exact (h.segT i g hi).same fun b hb=>hs b (z8a hi (by simp[GS.fp,hb]))
theorem BoxV.keep {S:List Nat} (h:BoxV H p lv sb ls gs) (hk:Keeps S H H') (hd:∀ b∈foot p sb lv gs,b ∉ S):BoxV H' p lv sb ls gs :=
 h.same (fun b hb=>hk.same b (h.lt b hb) (hd b hb)) hk.next
theorem BoxV.keep0 (h:BoxV H p lv sb ls gs) (hk:Keeps [] H H'):BoxV H' p lv sb ls gs:=h.keep hk (by simp)
theorem BoxV.update (h:BoxV H p lv sb ls gs) {i:Nat} {g g':GS} (hi:gs[i]? = some g) (hk:Keeps (sb :: g.fp) H H') (hsb:H'.get sb=some (.cells true (zbj (gs.set i g'))))
  (hS:Seg H' g'.S.v (g'.s.map i64)) (hT:Seg H' g'.T.v (g'.t.map i64)) (hd:∀ b∈vb g'.S.v,b ∉ vb g'.T.v) (hfr:∀ b∈g'.fp,b∈g.fp∨H.next≤b) (hz:g'.s.length≤16∧g'.t.length≤16):BoxV H' p lv sb ls (gs.set i g'):=by
 have hil:i < gs.length:=by
  rcases Nat.lt_or_ge i gs.length with q | q
  ·exact q
  ·rw[List.getElem?_eq_none q] at hi;cases hi
 have hlt:=h.lt
 have own:=h.own i g hi
 have hget:∀ (j:Nat) (x:GS),(gs.set i g')[j]? = some x→(j=i∧x=g')∨(j≠i∧gs[j]? = some x):=by
  intro j x hx
  by_cases hj:j=i
  ·subst hj
   rw[List.getElem?_set_self hil] at hx
   cases hx;exact .inl ⟨rfl,rfl⟩
  ·rw[List.getElem?_set_ne (fun e=>hj e.symm)] at hx
   exact .inr ⟨hj,hx⟩
 have hnot:∀ b,b∈foot p sb lv gs→b≠sb→b ∉ g.fp→H'.get b=H.get b:=fun b hb h1 h2=>hk.same b (hlt b hb) (by simp[h1,h2])
 have hoth:∀ (j:Nat) (x:GS),j≠i→gs[j]? = some x→∀ b∈x.fp,H'.get b=H.get b:=fun j x hj hx b hb =>
  hnot b (z8a hx hb) (h.own j x hx b hb).2.1 (h.dis j i x g hx hi hj b hb)
 refine⟨?_,?_,by rw[List.length_set];exact h.len,hsb,fun j x hx=>?_,fun j x hx=>?_,fun j x hx=>?_,fun j k x y hx hy hjk b hb hb'=>?_,fun j x hx b hb=>?_,h.pse,h.plv,h.slv,fun j x hx=>?_,h.small,h.good⟩
 ·rw[hnot p (by simp[foot]) h.pse (fun hm=>(own p hm).1 rfl),List.length_set];exact h.obj
 ·rcases h.ports with q | ⟨b,o,u,c,e,hc,hb,hl,hu⟩
  ·exact .inl q
  ·refine .inr ⟨b,o,u,c,e,hc,Nat.lt_of_lt_of_le hb hk.next,?_,hu⟩
   rcases hl with hl | ⟨rw,cs,hb,h2⟩
   ·exact .inl hl
   refine .inr ⟨rw,cs,?_,h2⟩
   have hbm:b∈vb lv:=by rw[e];simp
   rw[hnot b (by simp[foot,hbm]) (fun e=>h.slv (e ▸ hbm)) (fun hm=>(own b hm).2.2 hbm)]
   exact hb
 ·rcases hget j x hx with⟨rfl,rfl⟩ | ⟨hj,hx'⟩
  ·exact hS
  ·exact (h.segS j x hx').same fun b hb=>hoth j x hj hx' b (by simp[GS.fp,hb])
 ·rcases hget j x hx with⟨rfl,rfl⟩ | ⟨hj,hx'⟩
  ·exact hT
  ·exact (h.segT j x hx').same fun b hb=>hoth j x hj hx' b (by simp[GS.fp,hb])
 ·rcases hget j x hx with⟨rfl,rfl⟩ | ⟨hj,hx'⟩
  ·exact hd
  ·exact h.dST j x hx'
 ·rcases hget j x hx with⟨rfl,rfl⟩ | ⟨hj,hx'⟩
  ·rcases hget k y hy with⟨rfl,rfl⟩ | ⟨hk',hy'⟩
   ·exact hjk rfl
   ·rcases hfr b hb with q | q
    ·exact h.dis j k g y hi hy' (fun e=>hk' e.symm) b q hb'
    ·have:=hlt b (z8a (p:=p) (sb:=sb) (lv:=lv) hy' hb');omega
  ·rcases hget k y hy with⟨rfl,rfl⟩ | ⟨hk',hy'⟩
   ·rcases hfr b hb' with q | q
    ·exact h.dis j k x g hx' hi hj b hb q
    ·have:=hlt b (z8a (p:=p) (sb:=sb) (lv:=lv) hx' hb);omega
   ·exact h.dis j k x y hx' hy' hjk b hb hb'
 ·rcases hget j x hx with⟨rfl,rfl⟩ | ⟨hj,hx'⟩
  ·rcases hfr b hb with q | q
   ·exact own b q
   ·have h1:=hlt p (by simp[foot])
    have h2:=hlt sb (by simp[foot])
    refine⟨by omega,by omega,fun hm=>?_⟩
    have:=hlt b (by simp[foot,hm])
    omega
  ·exact h.own j x hx' b hb
 ·rcases hget j x hx with⟨rfl,rfl⟩ | ⟨hj,hx'⟩
  ·exact hz
  ·exact h.sz j x hx'
structure Turn (H H':Heap) (p:Nat) (lv:V) (sb:Nat) (ls:List Port) (gs gs':List GS) (st':List PSt):Prop where
 box:BoxV H' p lv sb ls gs'
 st:gs'.map GS.st=st'
 keeps:Keeps (foot p sb lv gs) H H'
 fresh:∀ b∈foot p sb lv gs',b∈foot p sb lv gs∨H.next≤b
theorem zb1c {i:Nat} {g g':GS} {n:Nat} (hi:gs[i]? = some g) (hfr:∀ b∈g'.fp,b∈g.fp∨n≤b):∀ b∈foot p sb lv (gs.set i g'),b∈foot p sb lv gs∨n≤b:=by
 intro b hb
 simp only[foot,List.mem_cons,List.mem_append,List.mem_flatMap] at hb ⊢
 rcases hb with hb | hb | hb | ⟨x,hx,hb⟩
 ·exact .inl (.inl hb)
 ·exact .inl (.inr (.inl hb))
 ·exact .inl (.inr (.inr (.inl hb)))
 ·rcases List.mem_or_eq_of_mem_set hx with hx | rfl
  ·exact .inl (.inr (.inr (.inr ⟨x,hx,hb⟩)))
  ·rcases hfr b hb with q | q
   ·exact .inl (.inr (.inr (.inr ⟨g,List.mem_of_getElem? hi,q⟩)))
   ·exact .inr q
theorem zb6h (gs:List GS) (i:Nat) (g:GS):(gs.set i g).map GS.st=(gs.map GS.st).set i g.st:=by simp
theorem Turn.trans {H2:Heap} {gs1 gs2:List GS} {st1 st2:List PSt} (h:Turn H H' p lv sb ls gs gs1 st1) (g:Turn H' H2 p lv sb ls gs1 gs2 st2):Turn H H2 p lv sb ls gs gs2 st2 :=
 ⟨g.box,g.st,h.keeps.trans g.keeps (fun b hb hm=>by rcases h.fresh b hm with q | q;exact q;omega),fun b hb=>by
  have:=h.keeps.next
  rcases g.fresh b hb with q | q
  ·exact h.fresh b q
  ·right;omega⟩
theorem Turn.after {H2:Heap} {gs1:List GS} {st1:List PSt} (h:Turn H H' p lv sb ls gs gs1 st1) (hk:Keeps [] H' H2):Turn H H2 p lv sb ls gs gs1 st1 :=
 ⟨h.box.keep0 hk,h.st,h.keeps.trans hk (by simp),h.fresh⟩
theorem Turn.before {H0:Heap} {gs1:List GS} {st1:List PSt} (hk:Keeps [] H0 H) (h:Turn H H' p lv sb ls gs gs1 st1):Turn H0 H' p lv sb ls gs gs1 st1 :=
 ⟨h.box,h.st,(hk.mono (by simp)).trans h.keeps (fun _ _ h=>h),fun b hb=>by
  have:=hk.next
  rcases h.fresh b hb with q | q
  ·exact .inl q
  ·right;omega⟩
theorem Turn.refl (h:BoxV H p lv sb ls gs) (hk:Keeps [] H H'):Turn H H' p lv sb ls gs gs (gs.map GS.st):=⟨h.keep0 hk,rfl,hk.mono (by simp),fun b hb => .inl hb⟩
theorem BoxV.turn (h:BoxV H p lv sb ls gs) {i:Nat} {g g':GS} (hi:gs[i]? = some g) (hk:Keeps (sb :: g.fp) H H') (hsb:H'.get sb=some (.cells true (zbj (gs.set i g'))))
  (hS:Seg H' g'.S.v (g'.s.map i64)) (hT:Seg H' g'.T.v (g'.t.map i64)) (hd:∀ b∈vb g'.S.v,b ∉ vb g'.T.v) (hfr:∀ b∈g'.fp,b∈g.fp∨H.next≤b) (hz:g'.s.length≤16∧g'.t.length≤16):Turn H H' p lv sb ls gs (gs.set i g') ((gs.map GS.st).set i g'.st) :=
 ⟨h.update hi hk hsb hS hT hd hfr hz,zb6h _ _ _,hk.mono (fun b hb=>by
  rcases List.mem_cons.1 hb with rfl | hb
  ·simp[foot]
  ·exact z8a hi hb),zb1c hi hfr⟩
theorem BoxV.put (h:BoxV H p lv sb ls gs) {i:Nat} {g g':GS} {K:Heap} {cs:List V} (hi:gs[i]? = some g) (hk:Keeps g.fp H K) (hcs:cs=zbj (gs.set i g'))
  (hS:Seg K g'.S.v (g'.s.map i64)) (hT:Seg K g'.T.v (g'.t.map i64)) (hd:∀ b∈vb g'.S.v,b ∉ vb g'.T.v) (hfr:∀ b∈g'.fp,b∈g.fp∨H.next≤b) (hz:g'.s.length≤16∧g'.t.length≤16):Turn H (K.set sb (some (.cells true cs))) p lv sb ls gs (gs.set i g') ((gs.map GS.st).set i g'.st):=by
 have hlt:=h.lt sb (by simp[foot])
 have hn:=hk.next
 have hne:∀ b∈g'.fp,b≠sb:=fun b hb=>by
  rcases hfr b hb with q | q
  ·exact (h.own i g hi b q).2.1
  ·omega
 refine h.turn hi ?_ ?_ ?_ ?_ hd hfr hz
 ·exact zb7 (hk.mono (fun b hb=>by simp[hb])) (.inl (by simp))
 ·rw[Heap.get_set_self (by omega),hcs]
 ·exact hS.same fun b hb=>Heap.get_set_ne _ _ _ (hne b (by simp[GS.fp,hb]))
 ·exact hT.same fun b hb=>Heap.get_set_ne _ _ _ (hne b (by simp[GS.fp,hb]))
end
end Go.AM.Cap
