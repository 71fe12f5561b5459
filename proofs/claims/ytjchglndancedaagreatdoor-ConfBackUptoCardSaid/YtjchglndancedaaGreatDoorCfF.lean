import Derived.Test.YtjchglndancedaaGreatDoorCfE
import Derived.Test.YtjchglndancedaaGreatDoorPnC
import Derived.Test.YtjchglndancedaaGreatDoorAmIn
set_option linter.all false
/- conf: slices.Concat; ports.New in short -/
set_option maxHeartbeats 8000000
namespace Go.AM.Cap
open Go.AM Go.Proofs
def OwnG {α:Type} [Flat α] (H:Heap) (v:V) (xs:List α):Prop:=ziu H v xs∨(xs=[]∧∃ b c cs,v=slc b 0 (Flat.size α) 0 c∧H.get b=some (.cells true cs))
theorem OwnG.sl {α:Type} [Flat α] {H:Heap} {v:V} {xs:List α} (h:OwnG H v xs):Sl H v xs:=by
 rcases h with h | ⟨rfl,b,c,cs,rfl,hg⟩
 ·exact h.sl
 ·exact .inr ⟨b,0,_,c,rfl,Nat.zero_le _,Heap.get_lt hg,.inl rfl,.inr rfl⟩
theorem zbp4 {α:Type} [Flat α] {H:Heap} {v x:V} {xs ys:List α} {n bytes:Nat} {Q:V→Heap→Prop} (hs:Flat.size α=n) (hv:OwnG H v xs) (hx:Sl H x ys) (hl:xs.length + ys.length≤10000000) (hby:bytes≤1000)
  (hQ:∀ w H',OwnG H' w (xs ++ ys)→Keeps (vb v) H H'→(∀ b∈vb w,b∈vb v∨H.next≤b)→Q w H'):wp (zgm n bytes v x) Q H:=by
 have hmul:(xs.length + ys.length) * bytes≤10000000 * 1000:=Nat.mul_le_mul hl hby
 rcases hv with hv | ⟨rfl,b,c,cs,rfl,hb⟩
 ·exact z33 hs hv hx (by omega) (by omega) fun w H' o k vv=>hQ w H' (.inl o) k vv
 ·subst hs
  by_cases h0:ys=[]
  ·subst h0
   refine⟨slc b 0 (Flat.size α) 0 c,H,?_,hQ _ _ (.inr ⟨rfl,b,c,cs,rfl,hb⟩) (Keeps.refl _ _) (fun b hb => .inl hb)⟩
   rcases hx with⟨rfl,_⟩ | ⟨bb,o,u,c,rfl,_⟩ <;> rfl
  ·have hne:ys.length≠0:=fun h=>h0 (List.eq_nil_of_length_eq_zero h)
   have hc:zbe H (Flat.size α) x=some (zbp ys):=by
    rcases hx with⟨rfl,e⟩ | ⟨bb,o,u,c,rfl,hc,_,hl2,_⟩
    ·exact absurd e h0
    ·rcases hl2 with e | ⟨rw,cs,hg,q1,q2⟩
     ·exact absurd e h0
     ·simp only[zbe,hne,if_false,cellsAt,hg]
      rw[if_pos q1,q2]
   have hf:∃ a c,x = .slice a ys.length c:=by
    rcases hx with⟨rfl,e⟩ | ⟨bb,o,u,c,rfl,_⟩
    ·exact absurd e h0
    ·exact⟨_,_,rfl⟩
   obtain⟨a,c',rfl⟩:=hf
   have hlt:=Heap.get_lt hb
   have hone:=zbcx ys
   have hel:=zc0 ys
   have hcs0:zbe H (Flat.size α) (slc b 0 (Flat.size α) 0 c)=some []:=rfl
   simp only[List.length_nil,Nat.zero_add] at hl hmul
   have hpush:((H.set b none).push (some (.cells true (zbp ys)))).get H.next=some (.cells true (zbp ys)):=by
    have:=Heap.get_push_self (H.set b none) (some (.cells true (zbp ys)))
    simpa using this
   refine⟨slc H.next 0 (Flat.size α) ys.length ys.length,(H.set b none).push (some (.cells true (zbp ys))),?_,hQ _ _ (.inl (.inr ⟨H.next,by simp,by simpa using hpush⟩)) ?_ (fun b hb=>by simp at hb;right;omega)⟩
   ·simp only[zgm,hc,zwc,hne,if_false,hcs0,zsh,hb,if_true]
    rw[if_pos ⟨by rw[Nat.zero_add];omega,by omega,hone,hel⟩]
    simp
   ·exact⟨by simp,fun c hc hn=>by rw[Heap.get_push_lt (by simpa using hc),Heap.get_set_ne _ _ _ (by simpa using hn)]⟩
def grF (bytes:Nat) (zero:V) (x0 x1:V) (c:V):M V :=
 zb (
  zb (
   zb (za (zy .lss x1 (Value.int .i64 0))) fun x6 =>
   zn x6 (
    zb (za (some c)) fun x7 =>
    zb (za ((none:Option V))) fun _ =>
    ret (.nxt [x0,x1])
    ) (
    ret (.nxt [x0,x1])
    )
   ) fun o=>nx o fun vs =>
 zb (
  zb (za (capV (zd vs 0))) fun x10 =>
  zb (za (zv (zd vs 0))) fun x12 =>
  zb (za (zy .sub x10 x12)) fun x13 =>
  zb (za (zy .sub (zd vs 1) x13)) fun x14 =>
  zb (za (zy .gtr x14 (Value.int .i64 0))) fun x16 =>
  zn x16 (
   zb (za (capV (zd vs 0))) fun x19 =>
   zb (za (zhs 1 (zd vs 0) none (some x19))) fun x20 =>
   zb (appZ 1 bytes [zero] x20 x14) fun x22 =>
   zb (za (zv (zd vs 0))) fun x24 =>
   zb (za (zhs 1 x22 none (some x24))) fun x25 =>
   ret (.nxt [x25])
   ) (
   ret (.nxt [(zd vs 0)])
   )
  ) fun o=>nx o fun vs_2=>ret (.ret [(zd vs_2 0)])
  ) fun o=>zbl o fun vs=>ret (zbh [(zd vs 0)])
theorem zbyn {α:Type} [Flat α] {H:Heap} {bytes m:Nat} {zero c:V} (hs:Flat.size α=1) (hz:zfv zero=true) (hz1:zero.isOne=true) (hm:m≤10000000) (hby:bytes≤1000) (Q:V→Heap→Prop)
  (hQ:∀ w H',OwnG H' w ([]:List α)→Keeps [] H H'→(∀ b∈vb w,H.next≤b)→Q w H'):wp (grF bytes zero (.slice none 0 0) (i64 m) c) Q H:=by
 have e1:capV (.slice none 0 0)=some (i64 0):=rfl
 have e2:zv (Value.slice none 0 0:V)=some (i64 0):=rfl
 have hmul:m * bytes≤10000000 * 1000:=Nat.mul_le_mul hm hby
 unfold grF
 by_cases h0:m=0
 ·subst h0
  (try simp(maxSteps:=1000000)(disch:=first|omega|(simp only[Z3];omega)|(simp;done)|assumption|decide|(apply not_not_intro;assumption))only[ZB,e1,e2])
  exact hQ _ _ (.inl (ziu.nil _)) (Keeps.refl _ _) (by simp)
 have e3:zhs 1 (.slice none 0 0) none (some (i64 0))=some (.slice none 0 0):=rfl
 have hrep:(rep m [zero]).length=m * 1:=by
  have:∀ k,(rep k [zero]).length=k:=fun k=>by induction k with
   | zero=>rfl
   | succ k ih=>simp[rep,ih]
  rw[this];omega
 have hone:(rep m [zero]).all Value.isOne=true:=by
  have:∀ k,(rep k [zero]).all Value.isOne=true:=fun k=>by induction k with
   | zero=>rfl
   | succ k ih=>simp[rep,hz1] at ih ⊢;exact ih
  exact this m
 have e4:appZ 1 bytes [zero] (.slice none 0 0) (i64 m) H=some (slc H.next 0 1 m m,H.push (some (.cells true (rep m [zero])))):=by
  have hz':([zero]:List V).all zfv=true:=by simp[hz]
  have f1:zbe H 1 (.slice none 0 0)=some []:=rfl
  have f2:zsh H 1 (.slice none 0 0)=some H:=rfl
  simp only[appZ,Int.toNat_natCast]
  rw[if_pos ⟨hz',by omega,by omega,by omega⟩]
  simp only[zwc,h0,if_false,f1,f2]
  rw[if_pos ⟨by rw[Nat.zero_add];omega,by omega,hone,hrep⟩]
  simp
 have e5:∀ Q:V→Heap→Prop,wp (appZ 1 bytes [zero] (.slice none 0 0) (i64 m)) Q H↔Q (slc H.next 0 1 m m) (H.push (some (.cells true (rep m [zero])))):=fun Q=>by
  constructor
  ·rintro⟨a,H',h1,h2⟩
   rw[e4] at h1;cases h1;exact h2
  ·intro h;exact⟨_,_,e4,h⟩
 have e6:zhs 1 (slc H.next 0 1 m m) none (some (i64 0))=some (slc H.next 0 1 0 m):=by
  have hb:zdw m m (some (i64 0))=some 0:=by simp[zdw]
  have hb0:zdw 0 0 none=some 0:=rfl
  simp only[zhs,hb,hb0]
  simp[zro]
 have e7:zy .sub (i64 0) (i64 0)=some (i64 0):=rfl
 have e8:zy .sub (i64 m) (i64 0)=some (i64 m):=by
  have:IntKind.wrap .i64 ((m:Int) - 0)=m:=by
   rw[Int.sub_zero]
   exact i64_in (by omega) (by omega)
  show some (Value.int .i64 (IntKind.wrap .i64 ((m:Int) - 0)))=_
  rw[this]
 (try simp(maxSteps:=1000000)(disch:=first|omega|(simp only[Z3];omega)|(simp;done)|assumption|decide|(apply not_not_intro;assumption))only[ZB,e1,e2,e3,e5,e6,e7,e8])
 refine hQ _ _ (.inr ⟨rfl,H.next,m,_,by rw[hs],Heap.get_push_self _ _⟩) (Keeps.push _ _ _) (by simp)
def ccL2 (c:V) (vs:List V):M Out :=
 zb (za (zy .lss (zd vs 4) (zd vs 3))) fun x12 =>
 zb (
 zn x12 (
  ret (.nxt [(zd vs 0),(zd vs 1),(zd vs 2),(zd vs 3),(zd vs 4)])
  ) (
  ret (.brk 0 [(zd vs 0),(zd vs 1)])
  )
 ) fun o=>nx o fun vs_2 =>
 zb (
 zb (
  zb (za (zx 1 (zd vs_2 2) (zd vs_2 4))) fun x13 =>
  zb (z8 x13) fun x14 =>
  zb (za (zv x14)) fun x17 =>
  zb (za (zy .add (zd vs_2 1) x17)) fun x18 =>
  zb (za (zy .lss x18 (Value.int .i64 0))) fun x20 =>
  zn x20 (
   zb (za (some c)) fun x21 =>
   zb (za ((none:Option V))) fun _ =>
   ret (.nxt [(zd vs_2 0),x18,(zd vs_2 2),(zd vs_2 3),(zd vs_2 4)])
   ) (
   ret (.nxt [(zd vs_2 0),x18,(zd vs_2 2),(zd vs_2 3),(zd vs_2 4)])
   )
  ) fun o=>ret (zz 1 o)
 ) fun o=>nx o fun vs_3 =>
 zb (za (zy .add (zd vs_3 4) (Value.int .i64 1))) fun x22 =>
 ret (.nxt [(zd vs_3 0),(zd vs_3 1),(zd vs_3 2),(zd vs_3 3),x22])
def ccL5 (bytes:Nat) (vs_5:List V):M Out :=
 zb (za (zy .lss (zd vs_5 3) (zd vs_5 2))) fun x28 =>
 zb (
 zn x28 (
  ret (.nxt [(zd vs_5 0),(zd vs_5 1),(zd vs_5 2),(zd vs_5 3)])
  ) (
  ret (.brk 2 [(zd vs_5 0)])
  )
 ) fun o=>nx o fun vs_6 =>
 zb (
 zb (
  zb (za (zx 1 (zd vs_6 1) (zd vs_6 3))) fun x29 =>
  zb (z8 x29) fun x30 =>
  zb (zgm 1 bytes (zd vs_6 0) x30) fun x33 =>
  ret (.nxt [x33,(zd vs_6 1),(zd vs_6 2),(zd vs_6 3)])
  ) fun o=>ret (zz 3 o)
 ) fun o=>nx o fun vs_7 =>
 zb (za (zy .add (zd vs_7 3) (Value.int .i64 1))) fun x34 =>
 ret (.nxt [(zd vs_7 0),(zd vs_7 1),(zd vs_7 2),x34])
def ccF (bytes:Nat) (zero c c2:V) (x0:V):M V :=
 zb (
  zb (
   zb (za (zv x0)) fun x10 =>
   zb (
    zbg zby (ccL2 c2) [x0,(Value.int .i64 0),x0,x10,(Value.int .i64 0)]
    ) fun o=>ret (zz 0 o)
   ) fun o=>nx o fun vs_4 =>
 zb (grF bytes zero (.slice none 0 0) (zd vs_4 1) c) fun x24 =>
 zb (
  zb (za (zv (zd vs_4 0))) fun x26 =>
  zb (
   zbg zby (ccL5 bytes) [x24,(zd vs_4 0),x26,(Value.int .i64 0)]
   ) fun o=>ret (zz 2 o)
  ) fun o=>nx o fun vs_8=>ret (.ret [(zd vs_8 0)])
  ) fun o=>zbl o fun vs=>ret (zbh [(zd vs 0)])
theorem ccS (x0:V):zdb [x0]=ccF 16 (.string ⟨#[]⟩) (.iface zct (.string ⟨#[99,97,110,110,111,116,32,98,101,32,110,101,103,97,116,105,118,101]⟩)) (.iface zct (.string ⟨#[108,101,110,32,111,117,116,32,111,102,32,114,97,110,103,101]⟩)) x0:=rfl
theorem ccI (x0:V):ze4 [x0]=ccF 8 (i64 0) (.iface zct (.string ⟨#[99,97,110,110,111,116,32,98,101,32,110,101,103,97,116,105,118,101]⟩)) (.iface zct (.string ⟨#[108,101,110,32,111,117,116,32,111,102,32,114,97,110,103,101]⟩)) x0:=rfl
def zoc {α:Type} (l:List (In α)):Nat:=(l.map fun a=>a.xs.length).sum
def z3b {α:Type} (l:List (In α)):List α:=l.flatMap fun a=>a.xs
theorem zbig {α:Type} (l:List (In α)):(z3b l).length=zoc l:=by
 induction l with
 | nil=>rfl
 | cons a l ih =>
  simp only[z3b,List.flatMap_cons,List.length_append,zoc,List.map_cons,List.sum_cons] at ih ⊢
  rw[ih]
theorem zba8 {α:Type} (l:List (In α)) (j:Nat) (d:In α) (h:j < l.length):zoc (l.take (j + 1))=zoc (l.take j) + (l.getD j d).xs.length:=by
 have hts:l.take (j + 1)=l.take j ++ [l.getD j d]:=by
  rw[List.getD_eq_getElem?_getD,List.getElem?_eq_getElem h];exact List.take_succ_eq_append_getElem h
 rw[hts]
 simp[zoc]
theorem zbm4 {α:Type} (l:List (In α)) (j:Nat) (d:In α) (h:j < l.length):z3b (l.take (j + 1))=z3b (l.take j) ++ (l.getD j d).xs:=by
 have hts:l.take (j + 1)=l.take j ++ [l.getD j d]:=by
  rw[List.getD_eq_getElem?_getD,List.getElem?_eq_getElem h];exact List.take_succ_eq_append_getElem h
 rw[hts]
 simp[z3b]
theorem zbgk {α:Type} (l:List (In α)) (j:Nat):zoc (l.take j)≤zoc l:=by
 have:zoc l=zoc (l.take j) + zoc (l.drop j):=by
  simp only[zoc]
  rw[← List.sum_append,← List.map_append,List.take_append_drop]
 omega
theorem zbsn {α:Type} [Flat α] {H:Heap} {bytes:Nat} {zero c c2 v:V} {l:List (In α)} (hs:Flat.size α=1) (hz:zfv zero=true) (hz1:zero.isOne=true) (h:Sl2 H v l) (hl:l.length≤1000) (hm:zoc l≤10000000) (hby:bytes≤1000) (Q:V→Heap→Prop)
  (hQ:∀ w H',OwnG H' w (z3b l)→Keeps [] H H'→(∀ b∈vb w,H.next≤b)→Q w H'):wp (ccF bytes zero c c2 v) Q H:=by
 have hlen:=h.out.len
 unfold ccF
 (try simp(maxSteps:=1000000)(disch:=first|omega|(simp only[Z3];omega)|(simp;done)|assumption|decide|(apply not_not_intro;assumption))only[ZB,hlen])
 refine zb2 l.length (by omega) (fun j vs H'=>vs=[v,i64 (zoc (l.take j)),v,i64 l.length,i64 j]∧H'=H) ⟨rfl,rfl⟩ ?_
 rintro j vs H1 hj ⟨rfl,rfl⟩
 by_cases hlt:j < l.length
 ·obtain⟨a1,c1⟩:=h.get hlt
  have e:=zba8 l j default hlt
  have hle:=zbgk l (j + 1)
  have hlen2:=(h.at hlt).len
  rw[zcm] at c1
  rw[e] at hle ⊢
  (try simp(maxSteps:=1000000)(disch:=first|omega|(simp only[Z3];omega)|(simp;done)|assumption|decide|(apply not_not_intro;assumption))only[ZB,ccL2,a1,c1,hlen2])
  refine⟨hlt,?_⟩
  first | trivial | (push_cast;rfl) | (refine⟨?_,rfl⟩;push_cast;rfl)
 have:j=l.length:=by omega
 subst this
 rw[List.take_length]
 (try simp(maxSteps:=1000000)(disch:=first|omega|(simp only[Z3];omega)|(simp;done)|assumption|decide|(apply not_not_intro;assumption))only[ZB,ccL2])
 refine zbyn (α:=α) hs hz hz1 hm hby _ fun w H2 o2 k2 f2=>?_
 (try simp(maxSteps:=1000000)(disch:=first|omega|(simp only[Z3];omega)|(simp;done)|assumption|decide|(apply not_not_intro;assumption))only[ZB,hlen])
 refine zb2 l.length (by omega) (fun j vs H'=>∃ w',vs=[w',v,i64 l.length,i64 j]∧OwnG H' w' (z3b (l.take j))∧Keeps [] H1 H'∧(∀ b∈vb w',H1.next≤b)) ⟨w,rfl,o2,k2,f2⟩ ?_
 rintro i vs H3 hi ⟨w',rfl,o3,k3,f3⟩
 have h3:Sl2 H3 v l:=h.keep0 k3
 by_cases hlt:i < l.length
 ·obtain⟨a1,c1⟩:=h3.get hlt
  have e:=zbm4 l i default hlt
  have hle:=zbgk l (i + 1)
  have hcl:=zbig (l.take i)
  have hlt2:=zba8 l i default hlt
  rw[zcm] at c1
  rw[e]
  (try simp(maxSteps:=1000000)(disch:=first|omega|(simp only[Z3];omega)|(simp;done)|assumption|decide|(apply not_not_intro;assumption))only[ZB,ccL5,a1,c1])
  refine zbp4 hs o3 (h3.at hlt) (by omega) hby fun w4 H4 o4 k4 f4=>?_
  (try simp(maxSteps:=1000000)(disch:=first|omega|(simp only[Z3];omega)|(simp;done)|assumption|decide|(apply not_not_intro;assumption))only[ZB])
  refine⟨hlt,w4,rfl,o4,k3.trans k4 (fun b hb hm=>by have:=f3 b hm;omega),fun b hb=>?_⟩
  have hn:=k3.next
  rcases f4 b hb with q | q
  ·exact f3 b q
  ·omega
 have:i=l.length:=by omega
 subst this
 rw[List.take_length] at o3
 (try simp(maxSteps:=1000000)(disch:=first|omega|(simp only[Z3];omega)|(simp;done)|assumption|decide|(apply not_not_intro;assumption))only[ZB,ccL5])
 exact hQ _ _ o3 k3 f3
end Go.AM.Cap
