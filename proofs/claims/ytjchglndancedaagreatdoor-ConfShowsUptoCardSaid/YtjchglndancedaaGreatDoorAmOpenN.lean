import Derived.Test.YtjchglndancedaaGreatDoorAmIn
import Derived.WideKeyArgs
import Derived.ChangeSame
import Derived.OpenShut
import Derived.LaidSub
import Derived.ChangeMaps5
import Derived.Lib.LaidTab
import Derived.Deep.Slices
set_option linter.all false
/- Things on the heap that lie apart from each other. -/
namespace Go.AM
structure Thing where
 fp:List Nat
 P:Heap→Prop
 loc:∀ {H H':Heap},H.next≤H'.next→(∀ b∈fp,H'.get b=H.get b)→P H→P H'
 lt:∀ {H:Heap},P H→∀ b∈fp,b < H.next
def cel (d:Nat) (cs:List V):Thing:=⟨[d],fun H=>H.get d=some (.cells true cs),fun _ h p=>by rw[h d (by simp)];exact p,fun p b hb=>by simp at hb;subst hb;exact Heap.get_lt p⟩
def own {α:Type} [Flat α] (v:V) (xs:List α):Thing :=
 ⟨vb v,fun H=>zh7 H v xs,fun _ h p=>by
  rcases p with p | ⟨b,rfl,hb⟩
  ·exact .inl p
  ·exact .inr ⟨b,rfl,by rw[h b (by simp)];exact hb⟩,fun p=>p.lt⟩
def view {α:Type} [Flat α] (v:V) (xs:List α):Thing :=
 ⟨vb v,fun H=>Sl H v xs,fun hn h p=>by
  rcases p with p | ⟨b,o,u,c,rfl,hc,hb,hl,hu⟩
  ·exact .inl p
  ·refine .inr ⟨b,o,u,c,rfl,hc,by omega,?_,hu⟩
   rw[h b (by simp)];exact hl,fun p b hb=>by
  rcases p with⟨rfl,rfl⟩ | ⟨b',o,u,c,rfl,hc,hb',hl,hu⟩
  ·simp at hb
  ·simp at hb;omega⟩
structure Hp (H0 H:Heap) (L:List Thing):Prop where
 keeps:Keeps [] H0 H
 new:∀ t∈L,∀ b∈t.fp,H0.next≤b
 all:∀ t∈L,t.P H
 apart:L.Pairwise fun t u=>∀ b∈t.fp,b ∉ u.fp
theorem Hp.start (H:Heap):Hp H H []:=⟨Keeps.refl _ _,by simp,by simp,List.Pairwise.nil⟩
variable {H0 H H':Heap} {L:List Thing} {t t':Thing}
theorem Hp.keep (h:Hp H0 H L) {S:List Nat} (hk:Keeps S H H') (hs:∀ b∈S,H0.next≤b∧∀ t∈L,b ∉ t.fp):Hp H0 H' L :=
 ⟨h.keeps.trans hk (fun b hb hm=>by have:=(hs b hm).1;omega),h.new,fun t ht=>t.loc hk.next (fun b hb=>hk.same b (t.lt (h.all t ht) b hb) fun q=>(hs b q).2 t ht hb) (h.all t ht),h.apart⟩
theorem Hp.keep0 (h:Hp H0 H L) (hk:Keeps [] H H'):Hp H0 H' L:=h.keep hk (by simp)
theorem Hp.push (h:Hp H0 H L) (x:Option Blk):Hp H0 (H.push x) L:=h.keep0 (Keeps.push _ _ _)
theorem Hp.head (h:Hp H0 H (t :: L)):t.P H:=h.all t (by simp)
theorem Hp.tail (h:Hp H0 H (t :: L)):Hp H0 H L:=⟨h.keeps,fun u hu=>h.new u (by simp[hu]),fun u hu=>h.all u (by simp[hu]),(List.pairwise_cons.1 h.apart).2⟩
theorem Hp.drop (h:Hp H0 H L) (n:Nat):Hp H0 H (L.drop n):=⟨h.keeps,fun u hu=>h.new u (List.mem_of_mem_drop hu),fun u hu=>h.all u (List.mem_of_mem_drop hu),h.apart.sublist (List.drop_sublist n L)⟩
theorem Hp.sub {L':List Thing} (h:Hp H0 H L) (hs:L'.Sublist L):Hp H0 H L':=⟨h.keeps,fun u hu=>h.new u (hs.subset hu),fun u hu=>h.all u (hs.subset hu),h.apart.sublist hs⟩
theorem Hp.perm {L':List Thing} (h:Hp H0 H L) (hp:L.Perm L'):Hp H0 H L' :=
 ⟨h.keeps,fun u hu=>h.new u (hp.mem_iff.2 hu),fun u hu=>h.all u (hp.mem_iff.2 hu),(hp.pairwise_iff (R:=fun t u:Thing=>∀ b∈t.fp,b ∉ u.fp) (fun h b hb hb'=>h b hb' hb)).1 h.apart⟩
theorem Hp.at (h:Hp H0 H L) {i:Nat} (hi:L[i]? = some t):t.P H:=h.all t (List.mem_of_getElem? hi)
theorem Hp.newAt (h:Hp H0 H L) {i:Nat} (hi:L[i]? = some t):∀ b∈t.fp,H0.next≤b:=h.new t (List.mem_of_getElem? hi)
theorem Hp.ltAt (h:Hp H0 H L) {i:Nat} (hi:L[i]? = some t):∀ b∈t.fp,b < H.next:=t.lt (h.at hi)
theorem zbit {α:Type}:∀ {L:List α} {i:Nat} {t:α},L[i]? = some t→L.Perm (t :: L.eraseIdx i)
 | [],i,t,h=>by simp at h
 | x :: l,0,t,h=>by simp at h;subst h;exact List.Perm.refl _
 | x :: l,i + 1,t,h=>by
  have:=zbit (L:=l) (i:=i) (t:=t) (by simpa using h)
  exact (List.Perm.cons x this).trans (List.Perm.swap _ _ _)
theorem zbqm {α:Type}:∀ {L:List α} {i:Nat} {t u:α},L[i]? = some t→(u :: L.eraseIdx i).Perm (L.set i u)
 | [],i,t,u,h=>by simp at h
 | x :: l,0,t,u,h=>by simp
 | x :: l,i + 1,t,u,h=>by
  have:=zbqm (L:=l) (i:=i) (t:=t) (u:=u) (by simpa using h)
  exact (List.Perm.swap _ _ _).trans (List.Perm.cons x this)
theorem Hp.front (h:Hp H0 H L) {i:Nat} (hi:L[i]? = some t):Hp H0 H (t :: L.eraseIdx i):=h.perm (zbit hi)
theorem Hp.add (h:Hp H0 H L) (hk:Keeps [] H H') (ht:t.P H') (hn:∀ b∈t.fp,H.next≤b):Hp H0 H' (t :: L):=by
 have h1:=h.keep0 hk
 refine⟨h1.keeps,fun u hu=>?_,fun u hu=>?_,List.pairwise_cons.2 ⟨fun u hu b hb hb'=>?_,h1.apart⟩⟩
 ·rcases List.mem_cons.1 hu with rfl | hu
  ·exact fun b hb=>Nat.le_trans h.keeps.next (hn b hb)
  ·exact h.new u hu
 ·rcases List.mem_cons.1 hu with rfl | hu
  ·exact ht
  ·exact h1.all u hu
 ·have:=hn b hb
  have:=u.lt (h.all u hu) b hb'
  omega
theorem Hp.newc (h:Hp H0 H L) (cs:List V):Hp H0 (H.push (some (.cells true cs))) (cel H.next cs :: L) :=
 h.add (Keeps.push _ _ _) (Heap.get_push_self _ _) (by
  intro b hb
  have:b=H.next:=by simpa[cel] using hb
  omega)
theorem Hp.newo {α:Type} [Flat α] (h:Hp H0 H L) {n m:Nat} (xs:List α) (hs:Flat.size α=n) (hm:xs.length=m):Hp H0 (H.push (some (.cells true (zbj xs)))) (own (slc H.next 0 n m m) xs :: L) :=
 h.add (Keeps.push _ _ _) (z0f hs hm) (by
  intro b hb
  have:b=H.next:=by simpa[own] using hb
  omega)
theorem Hp.nilo {α:Type} [Flat α] (h:Hp H0 H L):Hp H0 H (own (.slice none 0 0) ([]:List α) :: L) :=
 h.add (Keeps.refl _ _) (zh7.nil H) (by simp[own])
theorem Hp.step1 (h:Hp H0 H (t :: L)) (hk:Keeps t.fp H H') (ht:t'.P H') (hn:∀ b∈t'.fp,b∈t.fp∨H.next≤b):Hp H0 H' (t' :: L):=by
 have hp:=(List.pairwise_cons.1 h.apart).1
 have h1:Hp H0 H' L:=h.tail.keep hk fun b hb=>⟨h.new t (by simp) b hb,fun u hu=>hp u hu b hb⟩
 refine⟨h1.keeps,fun u hu=>?_,fun u hu=>?_,List.pairwise_cons.2 ⟨fun u hu b hb hb'=>?_,h1.apart⟩⟩
 ·rcases List.mem_cons.1 hu with rfl | hu
  ·intro b hb
   rcases hn b hb with q | q
   ·exact h.new t (by simp) b q
   ·exact Nat.le_trans h.keeps.next q
  ·exact h1.new u hu
 ·rcases List.mem_cons.1 hu with rfl | hu
  ·exact ht
  ·exact h1.all u hu
 ·rcases hn b hb with q | q
  ·exact hp u hu b q hb'
  ·have:=u.lt (h.all u (by simp[hu])) b hb';omega
theorem Hp.step (h:Hp H0 H L) {i:Nat} (hi:L[i]? = some t) (hk:Keeps t.fp H H') (ht:t'.P H') (hn:∀ b∈t'.fp,b∈t.fp∨H.next≤b):Hp H0 H' (L.set i t') :=
 ((h.front hi).step1 hk ht hn).perm (zbqm hi)
theorem Hp.get {d i:Nat} {cs:List V} (h:Hp H0 H L) (hi:L[i]? = some (cel d cs)):H.get d=some (.cells true cs):=h.at hi
theorem Hp.set {d i:Nat} {cs:List V} (h:Hp H0 H L) (hi:L[i]? = some (cel d cs)) (cs':List V):Hp H0 (H.set d (some (.cells true cs'))) (L.set i (cel d cs')) :=
 h.step hi (Keeps.set (by simp[cel])) (Heap.get_set_eq (Heap.get_lt (h.get hi))) (fun b hb => .inl hb)
theorem Hp.own {α:Type} [Flat α] {i:Nat} {v:V} {xs:List α} (h:Hp H0 H L) (hi:L[i]? = some (own v xs)):zh7 H v xs:=h.at hi
theorem Hp.view {α:Type} [Flat α] {i:Nat} {v:V} {xs:List α} (h:Hp H0 H L) (hi:L[i]? = some (view v xs)):Sl H v xs:=h.at hi
theorem Hp.ro {α:Type} [Flat α] {v:V} {xs:List α} (h:Hp H0 H L) (hs:Sl H0 v xs):Sl H v xs:=hs.keep0 h.keeps
theorem Hp.rot {A B:List Thing} (h:Hp H0 H (A ++ (B ++ L))):Hp H0 H (B ++ (A ++ L)) :=
 h.perm (by rw[← List.append_assoc,← List.append_assoc];exact List.Perm.append_right L List.perm_append_comm)
theorem Hp.join {B:List Thing} (h:Hp H0 H L) (h2:Hp H H' B):Hp H0 H' (B ++ L):=by
 have:=(h.keep0 h2.keeps)
 refine⟨this.keeps,fun u hu=>?_,fun u hu=>?_,List.pairwise_append.2 ⟨h2.apart,h.apart,fun t ht u hu b hb hb'=>?_⟩⟩
 ·rcases List.mem_append.1 hu with hu | hu
  ·exact fun b hb=>Nat.le_trans h.keeps.next (h2.new u hu b hb)
  ·exact h.new u hu
 ·rcases List.mem_append.1 hu with hu | hu
  ·exact h2.all u hu
  ·exact this.all u hu
 ·have:=h2.new t ht b hb
  have:=u.lt (h.all u hu) b hb'
  omega
theorem z1l {α:Type} [Flat α] {v x:V} {xs ys:List α} {n bytes i:Nat} {Q:V→Heap→Prop} (h:Hp H0 H L) (hi:L[i]? = some (Go.AM.own v xs)) (hs:Flat.size α=n) (hx:Sl H x ys) (hb:(xs.length + ys.length) * bytes≤35184372088832) (hb2:xs.length + ys.length≤35184372088832)
  (hQ:∀ w H',Hp H0 H' (L.set i (Go.AM.own w (xs ++ ys)))→Q w H'):wp (zd0 n bytes v x) Q H :=
 z71 hs (h.own hi) hx hb hb2 fun w H' o k vv=>hQ w H' (h.step hi k o vv)
theorem zna {α:Type} [Flat α] {v:V} {xs ys:List α} {n m bytes i:Nat} {zero:List V} {parts:List (Nat × Nat × V)} {Q:V→Heap→Prop} (h:Hp H0 H L) (hi:L[i]? = some (Go.AM.own v xs)) (hs:Flat.size α=n) (hz:zero.all zge=true) (hf:zbu zero parts=some (zbj ys)) (hm:ys.length=m) (hb:(xs.length + m) * bytes≤35184372088832) (hb2:xs.length + m≤35184372088832)
  (hQ:∀ w H',Hp H0 H' (L.set i (Go.AM.own w (xs ++ ys)))→Q w H'):wp (zcc n m zero parts) (fun x H1=>wp (zd0 n bytes v x) Q H1) H :=
 zbmp hs (h.own hi) hz hf hm hb hb2 fun w H' o k vv=>hQ w H' (h.step hi k o vv)
theorem zb2l {v:V} {xs:List (BitVec 8)} {s:ByteArray} {i:Nat} {Q:V→Heap→Prop} (h:Hp H0 H L) (hi:L[i]? = some (Go.AM.own v xs)) (hb:xs.length + s.size≤35184372088832)
  (hQ:∀ w H',Hp H0 H' (L.set i (Go.AM.own w (xs ++ bv s)))→Q w H'):wp (appS v (.string s)) Q H :=
 zbxc (h.own hi) hb fun w H' o k vv=>hQ w H' (h.step hi k o vv)
theorem zh7.at {α:Type} [Flat α] {H:Heap} {v:V} {xs:List α} (h:zh7 H v xs) (hne:xs≠[]):slO v=0∧H.get (slB v)=some (.cells true (zbj xs))∧v=slc (slB v) 0 (Flat.size α) xs.length xs.length:=by
 rcases h with⟨_,q⟩ | ⟨b,rfl,hb⟩
 ·exact absurd q hne
 ·exact⟨rfl,hb,rfl⟩
theorem zh7.to {α:Type} [Flat α] {H H':Heap} {v:V} {xs ys:List α} (h:zh7 H v xs) (hne:xs≠[]) (hl:ys.length=xs.length) (hg:H'.get (slB v)=some (.cells true (zbj ys))):zh7 H' v ys:=by
 rcases h with⟨_,q⟩ | ⟨b,rfl,hb⟩
 ·exact absurd q hne
 ·exact .inr ⟨b,by rw[hl],hg⟩
theorem zbty {α:Type} [Flat α] {v u:V} {xs:List α} {x' d:α} {idx i off n:Nat} {Q:V→Heap→Prop} (h:Hp H0 H L) (hidx:L[idx]? = some (Go.AM.own v xs)) (hs:Flat.size α=n) (hi:i < xs.length) (ho:off < n) (hu:u.isOne=true) (hx:Flat.enc x'=(Flat.enc (xs.getD i d)).set off u)
  (hQ:∀ H',Hp H0 H' (L.set idx (Go.AM.own v (xs.set i x')))→Q undef H'):wp (st1 (ptr (slB v) (slO v + i * n + off)) u) Q H:=by
 subst hs
 have o:=h.own hidx
 have hne:xs≠[]:=by intro q;rw[q] at hi;simp at hi
 obtain⟨e0,hg,ev⟩:=o.at hne
 have hlen:=zb6 xs
 have hin:i * Flat.size α + off < (zbj xs).length:=by
  rw[hlen]
  calc i * Flat.size α + off < i * Flat.size α + Flat.size α:=by omega
   _=(i + 1) * Flat.size α:=by rw[Nat.add_mul];omega
   _≤xs.length * Flat.size α:=Nat.mul_le_mul_right _ (by omega)
 rw[e0,Nat.zero_add]
 refine (zbzg hg hu hin).mpr ?_
 rw[zbzo xs i off u x' d hi ho hx]
 refine hQ _ (h.step hidx (Keeps.set (by show slB v∈vb v;rw[ev];simp[slB])) (o.to hne (by simp) (Heap.get_set_eq (Heap.get_lt hg))) fun b hb => .inl hb)
end Go.AM

/- From runs on the abstract machine to calls in the model: what was there before stays as it was. -/
namespace Go.AM
open Go.RowKit (Below)
open Go.ChangeShapes
def zbzt (t:Nat) (x:V):V:=match x with
 | .agg cs=>match cs.toList with
  | [.pointer (some ⟨g,o,none⟩)]=>if g < 1048576∧o < 1048576 then .chan (some (t * 1099511627776 + g * 1048576 + o)) else undef
  | _=>undef
 | _=>undef
theorem zbxe (ρ:Ren) (t:Nat) (x:V):VRel ρ (zbzt t x) (.iface t x):=by
 unfold zbzt
 split
 ·rename_i cs
  split
  ·rename_i g o hcs
   split
   ·rename_i h
    have e:tokV (t * 1099511627776 + g * 1048576 + o) = .iface t (.agg cs):=by
     unfold tokV
     have e1:(t * 1099511627776 + g * 1048576 + o) / 1099511627776=t:=by omega
     have e2:(t * 1099511627776 + g * 1048576 + o) / 1048576 % 1048576=g:=by omega
     have e3:(t * 1099511627776 + g * 1048576 + o) % 1048576=o:=by omega
     rw[e1,e2,e3]
     congr 2
     apply Array.ext'
     rw[hcs]
    rw[← e];exact .tok _
   ·exact .undef _
  ·exact .undef _
 ·exact .undef _
def zye (N:Nat) (v:V):V:=match v with
 | .bool b => .bool b
 | .int k n => .int k n
 | .string s => .string s
 | .pointer none => .pointer none
 | .pointer (some ⟨b,o,none⟩)=>if b < N then .pointer (some ⟨b,o,none⟩) else undef
 | .slice none 0 0 => .slice none 0 0
 | .slice (some a) len cap=>if a.spot=none∧a.block < N∧len≤cap then slc a.block a.off 0 len cap else if len=0∧cap=0∧0 < N then slc 0 0 0 0 0 else undef
 | .map none => .map none
 | .map (some b)=>if b < N then .map (some b) else undef
 | .nilFunc => .nilFunc
 | .nilIface => .nilIface
 | .iface t x=>zbzt t x
 | _=>undef
def znb (N:Nat) (v:V):V:=match v with
 | .agg cs => .agg (cs.map (zye N))
 | v=>zye N v
def absB (N:Nat):Option Obj→Option Blk
 | some (.cells C _ _)=>some (.cells false (C.toList.map (znb N)))
 | some (.map E _)=>some (.map false (E.toList.map fun e=>(znb N e.key,znb N e.val)))
 | _=>none
def zqr (w:World):Heap:=Heap.mk0 w.heap.size fun b=>absB w.heap.size w.heap[b]?
def zbqn:Option Obj→Nat
 | some (.cells C _ _)=>C.size
 | _=>0
def ren0 (w:World):Ren:=fun b=>if b < w.heap.size then some ⟨b,0,zbqn w.heap[b]?⟩ else none
theorem zv7 (w:World):(zqr w).next=w.heap.size:=Heap.mk0_next _ _
theorem z0g (w:World) (b:Nat):(zqr w).get b=absB w.heap.size w.heap[b]? := by
 unfold zqr
 rw[Heap.mk0_get]
 by_cases h:b < w.heap.size
 ·rw[if_pos h]
 ·rw[if_neg h,Array.getElem?_eq_none (by omega)]
  rfl
theorem zbmq (w:World) (v:V):VRel (ren0 w) (zye w.heap.size v) v:=by
 have hr:∀ b,b < w.heap.size→ren0 w b=some ⟨b,0,zbqn w.heap[b]?⟩:=fun b h=>by simp only[ren0,h,if_true]
 unfold zye
 split
 ·exact .bool _
 ·exact .int _ _
 ·exact .string _
 ·exact .pnil
 ·split
  ·rename_i b o h
   have:=VRel.ptr (ρ:=ren0 w) b o _ (hr b h)
   simpa using this
  ·exact .undef _
 ·exact .snil
 ·split
  ·rename_i a len cap h
   obtain⟨b,o,sp⟩:=a
   obtain⟨rfl,h1,h2⟩:=h
   exact .slc b o 0 len cap _ o cap _ (hr b h1) (.inl (by simp)) h2 (Nat.le_refl _) (.inl rfl) (.inl (by simp)) (.inl rfl)
  ·split
   ·rename_i a len cap _ h
    obtain⟨rfl,rfl,h0⟩:=h
    exact .slc 0 0 0 0 0 _ 0 0 a (hr 0 h0) (.inr rfl) (Nat.le_refl _) (Nat.le_refl _) (.inl rfl) (.inr rfl) (.inl rfl)
   ·exact .undef _
 ·exact .mnil
 ·split
  ·rename_i b h
   exact .map b _ (hr b h)
  ·exact .undef _
 ·exact .nilFunc
 ·exact .nilIface
 ·exact zbxe _ _ _
 ·exact .undef _
theorem zbco (w:World) (v:V):VRel (ren0 w) (znb w.heap.size v) v:=by
 unfold znb
 split
 ·exact .agg _ _ (by simp) fun i h h'=>by simpa using zbmq w _
 ·exact zbmq w _
theorem z4p {ρ:Ren} {f:V→V} (h:∀ v,VRel ρ (f v) v):∀ l:List V,LRel ρ (l.map f) l
 | [] => .nil
 | v :: l => .cons (h v) (z4p h l)
theorem rel0 (w:World):Rel w.heap.size w (ren0 w) (zqr w) w:=by
 refine⟨Below.refl _ _,Nat.le_refl _,fun b hb=>?_,fun b hb=>⟨zbqn w.heap[b]?,by simp only[ren0,hb,if_true]⟩,fun b x hx=>?_,fun b b' x x' L L' hx hx' hne hL hL'=>?_⟩
 ·rw[zv7] at hb
  simp only[ren0];rw[if_neg (by omega)]
 ·have hlt:=Heap.get_lt hx
  rw[zv7] at hlt
  rw[z0g] at hx
  refine⟨⟨b,0,zbqn w.heap[b]?⟩,by simp only[ren0,hlt,if_true],?_⟩
  unfold absB at hx
  split at hx
  ·rename_i C e f hC
   cases hx
   refine⟨C,e,f,hC,by simp[hC,zbqn],⟨fun h=>absurd h (by decide),fun _=>by simp⟩,by simp,?_⟩
   simp only[List.drop_zero,List.length_map]
   rw[List.take_of_length_le (by simp)]
   exact z4p (zbco w) _
  ·rename_i E clk hE
   cases hx
   refine⟨rfl,E,clk,hE,fun h=>absurd h (by decide),?_,?_⟩
   ·have:=z4p (zbco w) (E.toList.map (·.key))
    simpa[List.map_map,Function.comp_def] using this
   ·have:=z4p (zbco w) (E.toList.map (·.val))
    simpa[List.map_map,Function.comp_def] using this
  ·cases hx
 ·simp only[ren0] at hL hL'
  split at hL
  ·split at hL'
   ·cases hL;cases hL';exact hne
   ·cases hL'
  ·cases hL
theorem calls_of_wp' {P:Program} {f:FuncId} {F:List V→M V} (hk:zq P f F) {W:World} (hG:P.globals.size≤W.heap.size) {args:Array V} {b:Bool}
  (h:wp (F (args.toList.map (znb W.heap.size))) (fun r _=>r = .bool b) (zqr W)):Calls P f args W fun e W'=>e = .returned (.bool b)∧Below W.heap.size W W':=by
 obtain⟨r,H',h1,rfl⟩:=h
 have:=hk.2 W.heap.size W (ren0 W) (zqr W) W (args.toList.map (znb W.heap.size)) args.toList (.bool b) H' hG (rel0 W) (z4p (zbco W) _) h1
 have e:args.toList.toArray=args:=by simp
 rw[e] at this
 refine this.mono fun e W' ⟨r',he,ρ',hv,hr,_⟩=>?_
 subst he
 cases hv
 exact⟨rfl,hr.below⟩
theorem zbqo {H:Type} {enc:TypeId × Value→H} {P:Program} (hl:laidOutB P=true) {W W':World} (hb:Below W.heap.size W W') {sp:Nat→Bool}:∀ {ts:List TypeId} {vs:List Value} {ds:List (DataW H)} {ps:List MemPlace},
  (∀ t∈ts,P.readableRec t=true∧t < P.types.size)→DataW.TrodAll enc P W 0 (fun _=>true) true ts vs ds ps→(∀ p∈ps,p.block < W.heap.size)→(∀ p∈ps,sp p.block=true)→DataW.TrodAll enc P W' 0 sp true ts vs ds ps
 | [],vs,ds,ps,_,h,_,_=>by
  obtain⟨rfl,rfl,rfl⟩:=trodAll_nil h
  exact trodAll_mk0
 | t :: ts,vs,ds,ps,ht,h,hlt,hsp=>by
  obtain⟨v0,vs0,d0,ds0,p0,q0,rfl,rfl,rfl,h0,r0⟩:=trodAll_cons h
  have h1:=ht t (by simp)
  refine trodAll_cons_mk (WideElems.Trod_stays hl h1.1 h1.2 h0 (fun p hp=>hb.same (hlt p (by simp[hp]))) fun p hp=>hsp p (by simp[hp])) ?_
  exact zbqo hl hb (fun t h=>ht t (by simp[h])) r0 (fun p hp=>hlt p (by simp[hp])) (fun p hp=>hsp p (by simp[hp]))
theorem post_of_below {H:Type} {enc:TypeId × Value→H} {P:Program} {f:Func} {s:ChangeSpec} {apart fresh handsOn again:Bool} {W W':World} {args:Array Value} {v:Value} {ds:List (DataW H)} {gs:List (DataW H)} {before:List MemPlace} (hl:laidOutB P=true)
  (hts:∀ t∈f.params.toList,P.readableRec t=true∧t < P.types.size) (hvars:s.vars=[])
  (hW:DataW.Whole enc P f.params.toList s.vars apart W args.toList ds gs before) (hb:Below W.heap.size W W')
  (hres:∀ (b:Nat) (sp:Nat→Bool) (hd:Bool),DataW.TrodAll enc P W' b sp hd f.resultTypes.toList (v.resultList f.resultTypes.size) (s.fn H (ds ++ gs)).results [])
  (hargs:(s.fn H (ds ++ gs)).args=ds) (hv2:(s.fn H (ds ++ gs)).vars=[])
  (hok:∀ (j:Nat) (t:TypeId) (r:Value),f.resultTypes[j]? = some t→(v.resultList f.resultTypes.size)[j]? = some r→Value.okWide P W' .any 0 t r) :
  s.post enc P f apart fresh handsOn again W args v W':=by
 have hlt:∀ p∈before,p.block < W.heap.size:=fun p hp=>hW.lt p hp
 have hold:∀ p∈before,(fun b=>decide (b < W.heap.size)) p.block=true:=fun p hp=>by simpa using hlt p hp
 have hW':=hW
 obtain⟨pa,pv,hA,hV,hps,hz,hn⟩:=hW'
 rw[hvars] at hV
 obtain⟨hgs,hpv⟩:=trodVars_none hV
 subst hpv
 have hpa:before=pa:=by rw[hps,List.append_nil]
 have hargs':∀ sp:Nat→Bool,(∀ p∈before,sp p.block=true)→DataW.TrodAll enc P W' 0 sp true f.params.toList args.toList (s.fn H (ds ++ gs)).args pa:=fun sp hsp=>by
  rw[hargs]
  exact zbqo hl hb hts hA (fun p hp=>hlt p (by rw[hpa];exact hp)) (fun p hp=>hsp p (by rw[hpa];exact hp))
 have hvars':∀ sp:Nat→Bool,DataW.TrodVars enc P W' sp s.vars (s.fn H (ds ++ gs)).vars []:=fun sp=>by
  rw[hvars,hv2];rfl
 refine⟨ds,gs,before,[],pa,[],hW,hres _ _ _,hargs' _ hold,hvars' _,World.keptBut_mono (fun p hp=>⟨hp,?_⟩) (hb.frame (· ∈ before)),fun _=>?_⟩
 ·rw[hps,List.mem_append] at hp
  exact Or.inr hp
 ·refine⟨hok,_,_,([] ++ pa) ++ [],⟨[] ++ pa,[],trodAll_append (hargs' _ (fun _ _=>rfl)) (hres _ _ _),hvars' _,rfl,?_,?_⟩,?_⟩
  ·intro b off hp
   have hm:MemPlace.cell b off∈before:=by rw[hps];simpa using hp
   rw[hb.frozen (p:=⟨b,off,none⟩) (hlt _ hm)]
   exact hz b off hm
  ·intro ha
   have:=hn ha
   rw[hps] at this
   simpa using this
  ·intro p hp _
   rw[hps]
   simpa using hp
theorem zbxf {P:Program} {W:World} {name:String} {k:IntKind} {zs:List Int} {g:Nat} (h:Lib.TabIs P W name k zs) (hg:P.globalNamed name=some g):g < W.heap.size∧(zqr W).get g=some (.cells false (zs.map fun z=>Value.int k z)):=by
 unfold Lib.TabIs World.var? at h
 rw[hg] at h
 simp only[Option.bind_eq_bind,Option.bind_some] at h
 split at h
 ·rename_i C e f hC
  cases h
  have hlt:g < W.heap.size:=by
   rcases Nat.lt_or_ge g W.heap.size with q | q
   ·exact q
   ·rw[Array.getElem?_eq_none q] at hC;cases hC
  refine⟨hlt,?_⟩
  rw[z0g,hC]
  simp[absB,znb,zye,Function.comp_def]
 ·cases h
end Go.AM

/- Slices among the arguments: what they read as, and how they lie on the abstract machine. -/
namespace Go.AM
open Go.RowKit (Below)
open Go.ChangeShapes Go.WideShapes
variable {H:Type} {enc:TypeId × Value→H} {P:Program} {W:World}
theorem zbav {β:Type} {f:Nat→Option β}:∀ {n:Nat} {l:List β},(List.range n).mapM f=some l→l.length=n∧∀ i,i < n→f i=l[i]? := by
 intro n l h
 have h1:=Lib.mapM_length h
 rw[List.length_range] at h1
 refine⟨h1,fun i hi=>?_⟩
 obtain⟨b,hb,hf⟩:=Lib.mapM_at h i i (by simp[hi])
 rw[hf,hb]
theorem zbtz {b off n:Nat} {cs:List Value} (h:W.cells? 0 ⟨b,off,none⟩ n=some cs) {C:Array Value} {e:TypeId} {f:Nat × Nat} (hC:W.heap[b]? = some (.cells C e f)):(C.toList.drop off).take n=cs∧(0 < n→off + n≤C.size):=by
 unfold World.cells? at h
 rw[if_pos (Nat.zero_le _)] at h
 obtain⟨h1,h2⟩:=zbav h
 have key:∀ i,i < n→C[off + i]? = cs[i]? := fun i hi=>by
  rw[← h2 i hi]
  have e:(Addr.add ⟨b,off,none⟩ i)=⟨b,off + i,none⟩:=by
   unfold Addr.add
   split
   ·rename_i h0;subst h0;rfl
   ·rfl
  rw[e]
  simp[World.cell?,hC]
 have hlt:∀ i,i < n→off + i < C.size:=fun i hi=>by
  have:=key i hi
  rw[List.getElem?_eq_getElem (by omega)] at this
  rcases Nat.lt_or_ge (off + i) C.size with q | q
  ·exact q
  ·rw[Array.getElem?_eq_none q] at this;cases this
 refine⟨?_,fun hn=>by have:=hlt (n - 1) (by omega);omega⟩
 apply List.ext_getElem?
 intro i
 rw[List.getElem?_take]
 split
 ·rename_i hi
  rw[List.getElem?_drop,← key i hi]
  simp
 ·rename_i hi
  rw[List.getElem?_eq_none (by omega)]
theorem zbiv {α:Type} [Flat α] (C:List V) (off:Nat) (X:Nat→α):∀ n,(∀ i,i < n→(C.drop (off + i * Flat.size α)).take (Flat.size α)=Flat.enc (X i))→(C.drop off).take (n * Flat.size α)=zbj ((List.range n).map X)
 | 0,_=>by simp[zbj]
 | n + 1,h=>by
  rw[Nat.add_mul,Nat.one_mul,List.take_add,zbiv C off X n (fun i hi=>h i (by omega)),List.range_succ,List.map_append,zbf5,List.drop_drop,h n (by omega)]
  simp[zbj]
theorem zbzu {α:Type} [Flat α] [Inhabited α] {datR:DataW H→α→Prop} {good:α→Prop} {t e:TypeId} (ht:P.underlying t=some (.slice e)) (hce:P.cellsOf e=Flat.size α)
  (hop:0 < W.heap.size→∀ n cs x,DataW.trod enc P W 0 (fun _=>true) true n e cs=some x→∃ a:α,cs.map (znb W.heap.size)=Flat.enc a∧datR x.1 a∧good a) {v:Value} {d:DataW H} {ps:List MemPlace}
  (hval:∀ a len cap,v = .slice (some a) len cap→a.spot=none∧∃ C eT f,W.heap[a.block]? = some (.cells C eT f)) (hs:∃ a len cap,v = .slice a len cap) (h:DataW.Trod enc P W 0 (fun _=>true) true t v d ps) :
  ∃ xs:List α,Sl (zqr W) (znb W.heap.size v) xs∧(∀ x∈xs,good x)∧((d = .nil∧xs=[])∨∃ D rest,d = .slice ((List.range xs.length).map D) rest∧∀ i x,xs[i]? = some x→datR (D i) x):=by
 obtain⟨a,len,cap,rfl⟩:=hs
 obtain⟨fuel,hf⟩:=h
 have hv:(Value.slice a len cap).cells.toList=[Value.slice a len cap]:=rfl
 rw[hv] at hf
 rcases Deep.open_slice ht hf with⟨h1,h2⟩ | ⟨a',len',cap',m,n,D,Pl,h1,hb,hl,hm,hmm,hx,hel⟩
 ·cases h1
  cases h2
  exact⟨[],.inl ⟨rfl,rfl⟩,fun x hx=>(List.not_mem_nil hx).elim,.inl ⟨rfl,rfl⟩⟩
 ·cases h1
  have hm':m=cap:=by simpa using hmm
  subst hm'
  obtain⟨hspot,C,eT,f,hC⟩:=hval _ _ _ rfl
  obtain⟨b,off,spot⟩:=a'
  simp only at hspot
  subst hspot
  simp only at hC
  have hbN:b < W.heap.size:=by
   rcases Nat.lt_or_ge b W.heap.size with q | q
   ·exact q
   ·rw[Array.getElem?_eq_none q] at hC;cases hC
  have each:∀ i,∃ x:α,i < len→((C.toList.map (znb W.heap.size)).drop (off + i * Flat.size α)).take (Flat.size α)=Flat.enc x∧datR (D i) x∧good x∧off + i * Flat.size α + Flat.size α≤C.size:=fun i=>by
   by_cases hi:i < len
   ·obtain⟨cs',hc1,hc2⟩:=hel i (by omega)
    obtain⟨x,hx1,hx2,hx3⟩:=hop (by omega) _ _ _ hc2
    have ea:(Addr.add ⟨b,off,none⟩ (i * P.cellsOf e))=⟨b,off + i * P.cellsOf e,none⟩:=by
     unfold Addr.add
     split
     ·rename_i h0;rw[h0];rfl
     ·rfl
    rw[ea,hce] at hc1
    obtain⟨q1,q2⟩:=zbtz hc1 hC
    exact⟨x,fun _=>⟨by rw[← List.map_drop,← List.map_take,q1,hx1],hx2,hx3,q2 Flat.pos⟩⟩
   ·exact⟨default,fun h=>absurd h hi⟩
  have hX:=Classical.axiomOfChoice each
  obtain⟨X,hX⟩:=hX
  have habs:znb W.heap.size (.slice (some ⟨b,off,none⟩) len m)=slc b off 0 len m:=by simp only[znb,zye];rw[if_pos ⟨trivial,hbN,hl⟩]
  have hj:=zbiv (C.toList.map (znb W.heap.size)) off X len (fun i hi=>(hX i hi).1)
  refine⟨(List.range len).map X,?_,fun x hx=>?_,.inr ⟨D,(List.range (m - len)).map fun j=>D (len + j),?_,fun i x hx=>?_⟩⟩
  ·rw[habs]
   refine .inr ⟨b,off,0,m,by simp,by simpa using hl,by rw[zv7];exact hbN,?_,.inl rfl⟩
   by_cases h0:len=0
   ·left;simp[h0]
   ·right
    refine⟨false,C.toList.map (znb W.heap.size),by rw[z0g,hC];rfl,?_⟩
    have:=(hX (len - 1) (by omega)).2.2.2
    have e1:(len - 1 + 1) * Flat.size α=len * Flat.size α:=by rw[show len - 1 + 1=len by omega]
    rw[Nat.add_mul] at e1
    refine⟨by simp;omega,?_⟩
    rw[List.length_map,List.length_range,hj]
  ·obtain⟨i,hi,rfl⟩:=List.mem_map.1 hx
   exact (hX i (List.mem_range.1 hi)).2.2.1
  ·have hd:d=(DataW.slice ((List.range len).map D) ((List.range (m - len)).map fun j=>D (len + j))):=congrArg Prod.fst hx
   rw[hd];simp
  ·obtain⟨k,hk,rfl⟩:=List.mem_map.1 (List.mem_of_getElem? hx)
   have hik:i < len:=by
    rcases Nat.lt_or_ge i len with q | q
    ·exact q
    ·rw[List.getElem?_eq_none (by simpa using q)] at hx;cases hx
   rw[List.getElem?_map,List.getElem?_range hik,Option.map_some] at hx
   rw[← Option.some.inj hx]
   exact (hX i hik).2.1
theorem zbfa {t e:TypeId} (ht:P.underlying t=some (.slice e)) {base:Nat} {v:Value} (hval:Cell.okWide P W .any base t v) :
  (∀ a len cap,v = .slice (some a) len cap→a.spot=none∧∃ C eT f,W.heap[a.block]? = some (.cells C eT f))∧∃ a len cap,v = .slice a len cap:=by
 have shape:∀ b row cells,W.shape? b=some (row,cells)→∃ C eT f,W.heap[b]? = some (.cells C eT f):=fun b row cells hshape=>by
  unfold World.shape? at hshape
  split at hshape
  ·rename_i C eT f hC;exact⟨C,eT,f,hC⟩
  ·cases hshape
 have hv:Value.okWide P W .any base t v:=by simpa only[Value.okWide,ht] using hval
 obtain⟨a,len,cap,rfl⟩:=okWide_slice ht hv
 refine⟨fun a' len' cap' h=>?_,_,_,_,rfl⟩
 cases h
 simp only[Cell.okWide,ht,Cell.ok] at hval
 obtain⟨_,_,_,hspot,row,cells,hshape,_⟩:=hval
 exact⟨hspot,shape _ _ _ hshape⟩
theorem zbnt {α:Type} [Flat α] [Inhabited α] {datR:DataW H→α→Prop} {good:α→Prop} {t e:TypeId} (ht:P.underlying t=some (.slice e)) (hce:P.cellsOf e=Flat.size α) (hN:0 < W.heap.size)
  (hop:∀ n cs x,DataW.trod enc P W 0 (fun _=>true) true n e cs=some x→∃ a:α,cs.map (znb W.heap.size)=Flat.enc a∧datR x.1 a∧good a)
  (n:Nat) (cs:List Value) (x:DataW H × List MemPlace) (h:DataW.trod enc P W 0 (fun _=>true) true n t cs=some x) :
  ∃ a:In α,cs.map (znb W.heap.size)=[a.v]∧Sl (zqr W) a.v a.xs∧(∀ x∈a.xs,good x)∧((x.1 = .nil∧a.xs=[])∨∃ D rest,x.1 = .slice ((List.range a.xs.length).map D) rest∧∀ i y,a.xs[i]? = some y→datR (D i) y):=by
 have hf:=h
 rcases Deep.open_slice ht hf with⟨rfl,rfl⟩ | ⟨a',len,cap,m,n',D,Pl,rfl,hb,hl,hm,hmm,hx,hel⟩
 ·exact⟨⟨.slice none 0 0,[],rfl⟩,rfl,.inl ⟨rfl,rfl⟩,fun x hx=>(List.not_mem_nil hx).elim,.inl ⟨rfl,rfl⟩⟩
 ·have hm':m=cap:=by simpa using hmm
  by_cases h0:cap=0
  ·subst h0
   obtain rfl:len=0:=by omega
   refine⟨⟨znb W.heap.size (.slice (some a') 0 0),[],?_⟩,rfl,?_,fun x hx=>(List.not_mem_nil hx).elim,.inr ⟨D,(List.range (m - 0)).map fun j=>D (0 + j),by rw[hx];simp,by simp⟩⟩
   ·simp only[znb,zye];split
    ·rfl
    ·rw[if_pos ⟨trivial,trivial,hN⟩];rfl
   ·simp only[znb,zye];split
    ·rename_i q
     exact .inr ⟨_,_,0,0,rfl,Nat.le_refl _,by rw[zv7];exact q.2.1,.inl rfl,.inl rfl⟩
    ·rw[if_pos ⟨trivial,trivial,hN⟩]
     exact .inr ⟨0,0,0,0,rfl,Nat.le_refl _,by rw[zv7];exact hN,.inl rfl,.inl rfl⟩
  ·have hcell:a'.spot=none∧∃ C eT f,W.heap[a'.block]? = some (.cells C eT f):=by
    obtain⟨cs',hc1,_⟩:=hel 0 (by omega)
    have h00:(a'.add (0 * P.cellsOf e))=a':=by rw[Nat.zero_mul];rfl
    rw[h00] at hc1
    unfold World.cells? at hc1
    rw[if_pos (Nat.zero_le _)] at hc1
    have hp:0 < P.cellsOf e:=by rw[hce];exact Flat.pos
    obtain⟨_,h2⟩:=zbav hc1
    have hlen:=(zbav hc1).1
    have h3:=h2 0 hp
    have h01:a'.add 0=a':=rfl
    rw[h01,List.getElem?_eq_getElem (by omega)] at h3
    unfold World.cell? at h3
    split at h3
    ·rename_i C eT f hC
     split at h3
     ·cases h3
     ·rename_i hsp
      exact⟨by simpa using hsp,C,eT,f,hC⟩
    ·cases h3
   obtain⟨xs,h1,h2,h3⟩:=zbzu (v := .slice (some a') len cap) (datR:=datR) (good:=good) ht hce (fun _=>hop) (fun a len cap h=>by cases h;exact hcell) ⟨_,_,_,rfl⟩ ⟨n,h⟩
   exact⟨⟨_,xs,h1.isOne⟩,rfl,h1,h2,h3⟩
instance:Inhabited ByteArray:=⟨⟨#[]⟩⟩
end Go.AM

/- Structs of whole numbers among the arguments' elements. -/
namespace Go.AM
open Go.ChangeShapes Go.WideShapes
variable {H:Type} {enc:TypeId × Value→H} {P:Program} {W:World}
end Go.AM

/- Structs whose fields are of one cell each, among the arguments and their elements. -/
namespace Go.AM
open Go.ChangeShapes Go.WideShapes
variable {H:Type} {enc:TypeId × Value→H} {P:Program} {W:World}
def zcg (P:Program) (t:TypeId) (ts:List TypeId):Bool:=match P.underlying t with
 | some (.struct fs)=>(fs.size == ts.length) && (P.cellsOf t == ts.length) && (List.range ts.length).all fun i=>match fs[i]?,ts[i]? with
  | some f,some u=>(f.offset == i) && (P.cellsOf f.type == 1) && (f.type == u)
  | _,_=>false
 | _=>false
theorem zbgz {t:TypeId} {ts:List TypeId} (h:zcg P t ts=true):∃ fs:Array Field,P.underlying t=some (.struct fs)∧fs.size=ts.length∧P.cellsOf t=ts.length∧∀ (i:Nat) (u:TypeId),ts[i]? = some u→∃ f,fs[i]? = some f∧f.offset=i∧P.cellsOf f.type=1∧f.type=u:=by
 unfold zcg at h
 split at h
 ·rename_i fs hfs
  simp only[Bool.and_eq_true,beq_iff_eq,List.all_eq_true,List.mem_range] at h
  obtain⟨⟨h1,h2⟩,h3⟩:=h
  refine⟨fs,hfs,h1,h2,fun i u hu=>?_⟩
  have hi:i < ts.length:=by
   rcases Nat.lt_or_ge i ts.length with q | q
   ·exact q
   ·rw[List.getElem?_eq_none q] at hu;cases hu
  have:=h3 i hi
  rw[hu] at this
  split at this
  ·rename_i f u' hf hu'
   cases hu'
   simp only[Bool.and_eq_true,beq_iff_eq] at this
   exact⟨f,hf,this.1.1,this.1.2,this.2⟩
  ·cases this
 ·cases h
theorem zpz {t:TypeId} {ts:List TypeId} (hk:zcg P t ts=true) {n:Nat} {cs:List Value} {x:DataW H × List MemPlace} (h:DataW.trod enc P W 0 (fun _=>true) true n t cs=some x) :
  cs.length=ts.length∧∃ (m:Nat) (ds:List (DataW H × List MemPlace)),ds.length=ts.length∧x.1 = .agg (ds.map (·.1))∧∀ (i:Nat) (u:TypeId),ts[i]? = some u→∃ c d,cs[i]? = some c∧ds[i]? = some d∧DataW.trod enc P W 0 (fun _=>true) true m u [c]=some d:=by
 obtain⟨fs,ht,hs,hc,hf⟩:=zbgz hk
 obtain⟨xs,m,_,rfl,hl,hlen,hx⟩:=DataW.trod_struct ht h
 refine⟨by omega,m,xs,by omega,rfl,fun i u hu=>?_⟩
 have hi:i < ts.length:=by
  rcases Nat.lt_or_ge i ts.length with q | q
  ·exact q
  ·rw[List.getElem?_eq_none q] at hu;cases hu
 obtain⟨f,hfi,q1,q2,q3⟩:=hf i u hu
 have:=hx i _ hfi
 rw[q1,q2,q3] at this
 have hcs:i < cs.length:=by omega
 have e:(cs.drop i).take 1=[cs[i]]:=by rw[List.drop_eq_getElem_cons hcs,List.take_succ_cons,List.take_zero]
 have hxi:xs[i]? = some xs[i]:=List.getElem?_eq_getElem (by omega)
 rw[e,hxi] at this
 exact⟨cs[i],xs[i],List.getElem?_eq_getElem hcs,hxi,this⟩
end Go.AM

/- Structs whose fields take several cells (structs in structs), among the arguments. -/
namespace Go.AM
open Go.ChangeShapes Go.WideShapes
variable {H:Type} {enc:TypeId × Value→H} {P:Program} {W:World}
def zsr (P:Program) (t:TypeId) (l:List (Nat × Nat × TypeId)):Bool:=match P.underlying t with
 | some (.struct fs)=>(fs.size == l.length) && (List.range l.length).all fun i=>match fs[i]?,l[i]? with
  | some f,some (o,n,u)=>(f.offset == o) && (P.cellsOf f.type == n) && (f.type == u)
  | _,_=>false
 | _=>false
theorem z2t {t:TypeId} {l:List (Nat × Nat × TypeId)} (h:zsr P t l=true):∃ fs:Array Field,P.underlying t=some (.struct fs)∧fs.size=l.length∧∀ (i o n:Nat) (u:TypeId),l[i]? = some (o,n,u)→∃ f,fs[i]? = some f∧f.offset=o∧P.cellsOf f.type=n∧f.type=u:=by
 unfold zsr at h
 split at h
 ·rename_i fs hfs
  simp only[Bool.and_eq_true,beq_iff_eq,List.all_eq_true,List.mem_range] at h
  obtain⟨h1,h3⟩:=h
  refine⟨fs,hfs,h1,fun i o n u hu=>?_⟩
  have hi:i < l.length:=by
   rcases Nat.lt_or_ge i l.length with q | q
   ·exact q
   ·rw[List.getElem?_eq_none q] at hu;cases hu
  have:=h3 i hi
  rw[hu] at this
  split at this
  ·rename_i f o' n' u' hf hu'
   cases hu'
   simp only[Bool.and_eq_true,beq_iff_eq] at this
   exact⟨f,hf,this.1.1,this.1.2,this.2⟩
  ·cases this
 ·cases h
theorem zbmr {t:TypeId} {l:List (Nat × Nat × TypeId)} (hk:zsr P t l=true) {k:Nat} {cs:List Value} {x:DataW H × List MemPlace} (h:DataW.trod enc P W 0 (fun _=>true) true k t cs=some x) :
  cs.length=P.cellsOf t∧∃ (m:Nat) (ds:List (DataW H × List MemPlace)),ds.length=l.length∧x.1 = .agg (ds.map (·.1))∧∀ (i o n:Nat) (u:TypeId),l[i]? = some (o,n,u)→∃ d,ds[i]? = some d∧DataW.trod enc P W 0 (fun _=>true) true m u ((cs.drop o).take n)=some d:=by
 obtain⟨fs,ht,hs,hf⟩:=z2t hk
 obtain⟨xs,m,_,rfl,hl,hlen,hx⟩:=DataW.trod_struct ht h
 refine⟨hl,m,xs,by omega,rfl,fun i o n u hu=>?_⟩
 have hi:i < l.length:=by
  rcases Nat.lt_or_ge i l.length with q | q
  ·exact q
  ·rw[List.getElem?_eq_none q] at hu;cases hu
 obtain⟨f,hfi,q1,q2,q3⟩:=hf i o n u hu
 have:=hx i _ hfi
 rw[q1,q2,q3] at this
 have hxi:xs[i]? = some xs[i]:=List.getElem?_eq_getElem (by omega)
 rw[hxi] at this
 exact⟨xs[i],hxi,this⟩
theorem zb2n {t:TypeId} {l:List (Nat × Nat × TypeId)} {ts:List TypeId} (hk:zsr P t l=true) (hc:P.cellsOf t=ts.length) (hts:P.cellTypes P.depth t=some ts) {base:Nat} {v:Value} (hval:Value.okWide P W .any base t v) :
  ∃ cs:List Value,v = .agg cs.toArray∧cs.length=ts.length∧∀ (i:Nat) (u:TypeId) (c:Value),ts[i]? = some u→cs[i]? = some c→Cell.okWide P W .any base u c:=by
 obtain⟨fs,ht,hs,hf⟩:=z2t hk
 simp only[Value.okWide,ht] at hval
 obtain⟨cs,rfl,hsz,ts',hts',hn,hcell⟩:=hval
 rw[hts] at hts';cases hts'
 refine⟨cs.toList,by simp,by simp;omega,fun i u c hu hc'=>?_⟩
 have hi:i < ts.length:=by
  rcases Nat.lt_or_ge i ts.length with q | q
  ·exact q
  ·rw[List.getElem?_eq_none q] at hu;cases hu
 obtain⟨u',h1,h2⟩:=hcell i c (by rw[← hc',Array.getElem?_toList])
 rw[Nat.mod_eq_of_lt hi,hu] at h1
 cases h1;exact h2
end Go.AM
