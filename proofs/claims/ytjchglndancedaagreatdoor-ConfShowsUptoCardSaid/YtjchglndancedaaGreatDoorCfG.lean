import Derived.Test.YtjchglndancedaaGreatDoorCfE
import Derived.Test.YtjchglndancedaaGreatDoorPnC
import Derived.Test.YtjchglndancedaaGreatDoorAmIn
set_option linter.all false
/- conf: slices.Concat; ports.New in short -/
set_option maxHeartbeats 8000000
namespace Go.AM.Cap
open Go.AM Go.Proofs
def OwnG {α:Type} [Flat α] (H:Heap) (v:V) (xs:List α):Prop:=zh7 H v xs∨(xs=[]∧∃ b c cs,v=slc b 0 (Flat.size α) 0 c∧H.get b=some (.cells true cs))
theorem OwnG.sl {α:Type} [Flat α] {H:Heap} {v:V} {xs:List α} (h:OwnG H v xs):Sl H v xs:=by
 rcases h with h | ⟨rfl,b,c,cs,rfl,hg⟩
 ·exact h.sl
 ·exact .inr ⟨b,0,_,c,rfl,Nat.zero_le _,Heap.get_lt hg,.inl rfl,.inr rfl⟩
theorem zbxp {α:Type} [Flat α] {H:Heap} {v x:V} {xs ys:List α} {n bytes:Nat} {Q:V→Heap→Prop} (hs:Flat.size α=n) (hv:OwnG H v xs) (hx:Sl H x ys) (hl:xs.length + ys.length≤10000000) (hby:bytes≤1000)
  (hQ:∀ w H',OwnG H' w (xs ++ ys)→Keeps (vb v) H H'→(∀ b∈vb w,b∈vb v∨H.next≤b)→Q w H'):wp (zd0 n bytes v x) Q H:=by
 have hmul:(xs.length + ys.length) * bytes≤10000000 * 1000:=Nat.mul_le_mul hl hby
 rcases hv with hv | ⟨rfl,b,c,cs,rfl,hb⟩
 ·exact z71 hs hv hx (by omega) (by omega) fun w H' o k vv=>hQ w H' (.inl o) k vv
 ·subst hs
  by_cases h0:ys=[]
  ·subst h0
   refine⟨slc b 0 (Flat.size α) 0 c,H,?_,hQ _ _ (.inr ⟨rfl,b,c,cs,rfl,hb⟩) (Keeps.refl _ _) (fun b hb => .inl hb)⟩
   rcases hx with⟨rfl,_⟩ | ⟨bb,o,u,c,rfl,_⟩ <;> rfl
  ·have hne:ys.length≠0:=fun h=>h0 (List.eq_nil_of_length_eq_zero h)
   have hc:zbf H (Flat.size α) x=some (zbj ys):=by
    rcases hx with⟨rfl,e⟩ | ⟨bb,o,u,c,rfl,hc,_,hl2,_⟩
    ·exact absurd e h0
    ·rcases hl2 with e | ⟨rw,cs,hg,q1,q2⟩
     ·exact absurd e h0
     ·simp only[zbf,hne,if_false,cellsAt,hg]
      rw[if_pos q1,q2]
   have hf:∃ a c,x = .slice a ys.length c:=by
    rcases hx with⟨rfl,e⟩ | ⟨bb,o,u,c,rfl,_⟩
    ·exact absurd e h0
    ·exact⟨_,_,rfl⟩
   obtain⟨a,c',rfl⟩:=hf
   have hlt:=Heap.get_lt hb
   have hone:=zbcm ys
   have hel:=zb6 ys
   have hcs0:zbf H (Flat.size α) (slc b 0 (Flat.size α) 0 c)=some []:=rfl
   simp only[List.length_nil,Nat.zero_add] at hl hmul
   have hpush:((H.set b none).push (some (.cells true (zbj ys)))).get H.next=some (.cells true (zbj ys)):=by
    have:=Heap.get_push_self (H.set b none) (some (.cells true (zbj ys)))
    simpa using this
   refine⟨slc H.next 0 (Flat.size α) ys.length ys.length,(H.set b none).push (some (.cells true (zbj ys))),?_,hQ _ _ (.inl (.inr ⟨H.next,by simp,by simpa using hpush⟩)) ?_ (fun b hb=>by simp at hb;right;omega)⟩
   ·simp only[zd0,hc,zvu,hne,if_false,hcs0,zsp,hb,if_true]
    rw[if_pos ⟨by rw[Nat.zero_add];omega,by omega,hone,hel⟩]
    simp
   ·exact⟨by simp,fun c hc hn=>by rw[Heap.get_push_lt (by simpa using hc),Heap.get_set_ne _ _ _ (by simpa using hn)]⟩
def grF (bytes:Nat) (zero:V) (x0 x1:V) (c:V):M V :=
 zb (
  zb (
   zb (za (zu .lss x1 (Value.int .i64 0))) fun x6 =>
   zp x6 (
    zb (za (some c)) fun x7 =>
    zb (za ((none:Option V))) fun _ =>
    ret (.nxt [x0,x1])
    ) (
    ret (.nxt [x0,x1])
    )
   ) fun o=>nx o fun vs =>
 zb (
  zb (za (capV (zd vs 0))) fun x10 =>
  zb (za (zw (zd vs 0))) fun x12 =>
  zb (za (zu .sub x10 x12)) fun x13 =>
  zb (za (zu .sub (zd vs 1) x13)) fun x14 =>
  zb (za (zu .gtr x14 (Value.int .i64 0))) fun x16 =>
  zp x16 (
   zb (za (capV (zd vs 0))) fun x19 =>
   zb (za (zh6 1 (zd vs 0) none (some x19))) fun x20 =>
   zb (appZ 1 bytes [zero] x20 x14) fun x22 =>
   zb (za (zw (zd vs 0))) fun x24 =>
   zb (za (zh6 1 x22 none (some x24))) fun x25 =>
   ret (.nxt [x25])
   ) (
   ret (.nxt [(zd vs 0)])
   )
  ) fun o=>nx o fun vs_2=>ret (.ret [(zd vs_2 0)])
  ) fun o=>zbk o fun vs=>ret (zbi [(zd vs 0)])
theorem zb5q {α:Type} [Flat α] {H:Heap} {bytes m:Nat} {zero c:V} (hs:Flat.size α=1) (hz:zge zero=true) (hz1:zero.isOne=true) (hm:m≤10000000) (hby:bytes≤1000) (Q:V→Heap→Prop)
  (hQ:∀ w H',OwnG H' w ([]:List α)→Keeps [] H H'→(∀ b∈vb w,H.next≤b)→Q w H'):wp (grF bytes zero (.slice none 0 0) (i64 m) c) Q H:=by
 have e1:capV (.slice none 0 0)=some (i64 0):=rfl
 have e2:zw (Value.slice none 0 0:V)=some (i64 0):=rfl
 have hmul:m * bytes≤10000000 * 1000:=Nat.mul_le_mul hm hby
 unfold grF
 by_cases h0:m=0
 ·subst h0
  (try simp (maxSteps:=999999) (disch:=try exact ZD) only[ZB,e1,e2])
  exact hQ _ _ (.inl (zh7.nil _)) (Keeps.refl _ _) (by simp)
 have e3:zh6 1 (.slice none 0 0) none (some (i64 0))=some (.slice none 0 0):=rfl
 have hrep:(rep m [zero]).length=m * 1:=by
  have:∀ k,(rep k [zero]).length=k:=fun k=>by induction k with
   | zero=>rfl
   | succ k ih=>simp[rep,ih]
  rw[this];omega
 have hone:(rep m [zero]).all Value.isOne=true:=by
  have:∀ k,(rep k [zero]).all Value.isOne=true:=fun k=>by induction k with
   | zero=>rfl
   | succ k ih=>simp[rep,hz1] at ih ⊢;exact ih
  exact this m
 have e4:appZ 1 bytes [zero] (.slice none 0 0) (i64 m) H=some (slc H.next 0 1 m m,H.push (some (.cells true (rep m [zero])))):=by
  have hz':([zero]:List V).all zge=true:=by simp[hz]
  have f1:zbf H 1 (.slice none 0 0)=some []:=rfl
  have f2:zsp H 1 (.slice none 0 0)=some H:=rfl
  simp only[appZ,Int.toNat_natCast]
  rw[if_pos ⟨hz',by omega,by omega,by omega⟩]
  simp only[zvu,h0,if_false,f1,f2]
  rw[if_pos ⟨by rw[Nat.zero_add];omega,by omega,hone,hrep⟩]
  simp
 have e5:∀ Q:V→Heap→Prop,wp (appZ 1 bytes [zero] (.slice none 0 0) (i64 m)) Q H↔Q (slc H.next 0 1 m m) (H.push (some (.cells true (rep m [zero])))):=fun Q=>by
  constructor
  ·rintro⟨a,H',h1,h2⟩
   rw[e4] at h1;cases h1;exact h2
  ·intro h;exact⟨_,_,e4,h⟩
 have e6:zh6 1 (slc H.next 0 1 m m) none (some (i64 0))=some (slc H.next 0 1 0 m):=by
  have hb:zd1 m m (some (i64 0))=some 0:=by simp[zd1]
  have hb0:zd1 0 0 none=some 0:=rfl
  simp only[zh6,hb,hb0]
  simp[zts]
 have e7:zu .sub (i64 0) (i64 0)=some (i64 0):=rfl
 have e8:zu .sub (i64 m) (i64 0)=some (i64 m):=by
  have:IntKind.wrap .i64 ((m:Int) - 0)=m:=by
   rw[Int.sub_zero]
   exact i64_in (by omega) (by omega)
  show some (Value.int .i64 (IntKind.wrap .i64 ((m:Int) - 0)))=_
  rw[this]
 (try simp (maxSteps:=999999) (disch:=try exact ZD) only[ZB,e1,e2,e3,e5,e6,e7,e8])
 refine hQ _ _ (.inr ⟨rfl,H.next,m,_,by rw[hs],Heap.get_push_self _ _⟩) (Keeps.push _ _ _) (by simp)
def ccL2 (c:V) (vs:List V):M Out :=
 zb (za (zu .lss (zd vs 4) (zd vs 3))) fun x12 =>
 zb (
 zp x12 (
  ret (.nxt [(zd vs 0),(zd vs 1),(zd vs 2),(zd vs 3),(zd vs 4)])
  ) (
  ret (.brk 0 [(zd vs 0),(zd vs 1)])
  )
 ) fun o=>nx o fun vs_2 =>
 zb (
 zb (
  zb (za (zr 1 (zd vs_2 2) (zd vs_2 4))) fun x13 =>
  zb (zz x13) fun x14 =>
  zb (za (zw x14)) fun x17 =>
  zb (za (zu .add (zd vs_2 1) x17)) fun x18 =>
  zb (za (zu .lss x18 (Value.int .i64 0))) fun x20 =>
  zp x20 (
   zb (za (some c)) fun x21 =>
   zb (za ((none:Option V))) fun _ =>
   ret (.nxt [(zd vs_2 0),x18,(zd vs_2 2),(zd vs_2 3),(zd vs_2 4)])
   ) (
   ret (.nxt [(zd vs_2 0),x18,(zd vs_2 2),(zd vs_2 3),(zd vs_2 4)])
   )
  ) fun o=>ret (zv 1 o)
 ) fun o=>nx o fun vs_3 =>
 zb (za (zu .add (zd vs_3 4) (Value.int .i64 1))) fun x22 =>
 ret (.nxt [(zd vs_3 0),(zd vs_3 1),(zd vs_3 2),(zd vs_3 3),x22])
def ccL5 (bytes:Nat) (vs_5:List V):M Out :=
 zb (za (zu .lss (zd vs_5 3) (zd vs_5 2))) fun x28 =>
 zb (
 zp x28 (
  ret (.nxt [(zd vs_5 0),(zd vs_5 1),(zd vs_5 2),(zd vs_5 3)])
  ) (
  ret (.brk 2 [(zd vs_5 0)])
  )
 ) fun o=>nx o fun vs_6 =>
 zb (
 zb (
  zb (za (zr 1 (zd vs_6 1) (zd vs_6 3))) fun x29 =>
  zb (zz x29) fun x30 =>
  zb (zd0 1 bytes (zd vs_6 0) x30) fun x33 =>
  ret (.nxt [x33,(zd vs_6 1),(zd vs_6 2),(zd vs_6 3)])
  ) fun o=>ret (zv 3 o)
 ) fun o=>nx o fun vs_7 =>
 zb (za (zu .add (zd vs_7 3) (Value.int .i64 1))) fun x34 =>
 ret (.nxt [(zd vs_7 0),(zd vs_7 1),(zd vs_7 2),x34])
def ccF (bytes:Nat) (zero c c2:V) (x0:V):M V :=
 zb (
  zb (
   zb (za (zw x0)) fun x10 =>
   zb (
    zba zbm (ccL2 c2) [x0,(Value.int .i64 0),x0,x10,(Value.int .i64 0)]
    ) fun o=>ret (zv 0 o)
   ) fun o=>nx o fun vs_4 =>
 zb (grF bytes zero (.slice none 0 0) (zd vs_4 1) c) fun x24 =>
 zb (
  zb (za (zw (zd vs_4 0))) fun x26 =>
  zb (
   zba zbm (ccL5 bytes) [x24,(zd vs_4 0),x26,(Value.int .i64 0)]
   ) fun o=>ret (zv 2 o)
  ) fun o=>nx o fun vs_8=>ret (.ret [(zd vs_8 0)])
  ) fun o=>zbk o fun vs=>ret (zbi [(zd vs 0)])
theorem ccS (x0:V):zdh [x0]=ccF 16 (.string ⟨#[]⟩) (.iface zcz (.string ⟨#[99,97,110,110,111,116,32,98,101,32,110,101,103,97,116,105,118,101]⟩)) (.iface zcz (.string ⟨#[108,101,110,32,111,117,116,32,111,102,32,114,97,110,103,101]⟩)) x0:=rfl
theorem ccI (x0:V):zff [x0]=ccF 8 (i64 0) (.iface zcz (.string ⟨#[99,97,110,110,111,116,32,98,101,32,110,101,103,97,116,105,118,101]⟩)) (.iface zcz (.string ⟨#[108,101,110,32,111,117,116,32,111,102,32,114,97,110,103,101]⟩)) x0:=rfl
def zpq {α:Type} (l:List (In α)):Nat:=(l.map fun a=>a.xs.length).sum
def z7e {α:Type} (l:List (In α)):List α:=l.flatMap fun a=>a.xs
theorem zboy {α:Type} (l:List (In α)):(z7e l).length=zpq l:=by
 induction l with
 | nil=>rfl
 | cons a l ih =>
  simp only[z7e,List.flatMap_cons,List.length_append,zpq,List.map_cons,List.sum_cons] at ih ⊢
  rw[ih]
theorem zbgl {α:Type} (l:List (In α)) (j:Nat) (d:In α) (h:j < l.length):zpq (l.take (j + 1))=zpq (l.take j) + (l.getD j d).xs.length:=by
 have hts:l.take (j + 1)=l.take j ++ [l.getD j d]:=by
  rw[List.getD_eq_getElem?_getD,List.getElem?_eq_getElem h];exact List.take_succ_eq_append_getElem h
 rw[hts]
 simp[zpq]
theorem zbui {α:Type} (l:List (In α)) (j:Nat) (d:In α) (h:j < l.length):z7e (l.take (j + 1))=z7e (l.take j) ++ (l.getD j d).xs:=by
 have hts:l.take (j + 1)=l.take j ++ [l.getD j d]:=by
  rw[List.getD_eq_getElem?_getD,List.getElem?_eq_getElem h];exact List.take_succ_eq_append_getElem h
 rw[hts]
 simp[z7e]
theorem zbmt {α:Type} (l:List (In α)) (j:Nat):zpq (l.take j)≤zpq l:=by
 have:zpq l=zpq (l.take j) + zpq (l.drop j):=by
  simp only[zpq]
  rw[← List.sum_append,← List.map_append,List.take_append_drop]
 omega
theorem zbz5 {α:Type} [Flat α] {H:Heap} {bytes:Nat} {zero c c2 v:V} {l:List (In α)} (hs:Flat.size α=1) (hz:zge zero=true) (hz1:zero.isOne=true) (h:Sl2 H v l) (hl:l.length≤1000) (hm:zpq l≤10000000) (hby:bytes≤1000) (Q:V→Heap→Prop)
  (hQ:∀ w H',OwnG H' w (z7e l)→Keeps [] H H'→(∀ b∈vb w,H.next≤b)→Q w H'):wp (ccF bytes zero c c2 v) Q H:=by
 have hlen:=h.out.len
 unfold ccF
 (try simp (maxSteps:=999999) (disch:=try exact ZD) only[ZB,hlen])
 refine zbo l.length (by omega) (fun j vs H'=>vs=[v,i64 (zpq (l.take j)),v,i64 l.length,i64 j]∧H'=H) ⟨rfl,rfl⟩ ?_
 rintro j vs H1 hj ⟨rfl,rfl⟩
 by_cases hlt:j < l.length
 ·obtain⟨a1,c1⟩:=h.get hlt
  have e:=zbgl l j default hlt
  have hle:=zbmt l (j + 1)
  have hlen2:=(h.at hlt).len
  rw[zbd] at c1
  rw[e] at hle ⊢
  (try simp (maxSteps:=999999) (disch:=try exact ZD) only[ZB,ccL2,a1,c1,hlen2])
  refine⟨hlt,?_⟩
  first | trivial | (push_cast;rfl) | (refine⟨?_,rfl⟩;push_cast;rfl)
 have:j=l.length:=by omega
 subst this
 rw[List.take_length]
 (try simp (maxSteps:=999999) (disch:=try exact ZD) only[ZB,ccL2])
 refine zb5q (α:=α) hs hz hz1 hm hby _ fun w H2 o2 k2 f2=>?_
 (try simp (maxSteps:=999999) (disch:=try exact ZD) only[ZB,hlen])
 refine zbo l.length (by omega) (fun j vs H'=>∃ w',vs=[w',v,i64 l.length,i64 j]∧OwnG H' w' (z7e (l.take j))∧Keeps [] H1 H'∧(∀ b∈vb w',H1.next≤b)) ⟨w,rfl,o2,k2,f2⟩ ?_
 rintro i vs H3 hi ⟨w',rfl,o3,k3,f3⟩
 have h3:Sl2 H3 v l:=h.keep0 k3
 by_cases hlt:i < l.length
 ·obtain⟨a1,c1⟩:=h3.get hlt
  have e:=zbui l i default hlt
  have hle:=zbmt l (i + 1)
  have hcl:=zboy (l.take i)
  have hlt2:=zbgl l i default hlt
  rw[zbd] at c1
  rw[e]
  (try simp (maxSteps:=999999) (disch:=try exact ZD) only[ZB,ccL5,a1,c1])
  refine zbxp hs o3 (h3.at hlt) (by omega) hby fun w4 H4 o4 k4 f4=>?_
  (try simp (maxSteps:=999999) (disch:=try exact ZD) only[ZB])
  refine⟨hlt,w4,rfl,o4,k3.trans k4 (fun b hb hm=>by have:=f3 b hm;omega),fun b hb=>?_⟩
  have hn:=k3.next
  rcases f4 b hb with q | q
  ·exact f3 b q
  ·omega
 have:i=l.length:=by omega
 subst this
 rw[List.take_length] at o3
 (try simp (maxSteps:=999999) (disch:=try exact ZD) only[ZB,ccL5])
 exact hQ _ _ o3 k3 f3
end Go.AM.Cap

/- conf: ports.New in short, the ends of units, part.New -/
set_option maxHeartbeats 8000000
namespace Go.AM.Cap
open Go.AM Go.Proofs
theorem zbjy:∀ {ls:List Port} {i:Nat},(z8n i ls).2=0→∀ q∈ls,zlf q=0
 | [],_,_,q,hq=>by cases hq
 | p :: ps,i,h,q,hq=>by
  rw[z8n] at h
  by_cases hw:zlf p≠0
  ·rw[if_pos hw] at h;exact absurd h hw
  ·rw[if_neg hw] at h
   rcases List.mem_cons.1 hq with rfl | hq
   ·exact Decidable.not_not.1 hw
   ·exact zbjy h q hq
theorem z01 {ls:List Port} (h:(chkP ls).2=0):ls.length≤16∧∀ q∈ls,zlf q=0:=by
 unfold chkP at h
 by_cases h16:ls.length > 16
 ·rw[if_pos h16] at h;cases h
 ·rw[if_neg h16] at h
  exact⟨by omega,zbjy h⟩
theorem zboz {H:Heap} {lv:V} {ls:List Port} (hl:Sl H lv ls) (he:(chkP ls).2=0) (Q:V→Heap→Prop) (hQ:∀ p H',Keeps [] H H'→Q (.tuple #[ptr p 0,i64 0]) H'):wp (zyg [lv]) Q H:=by
 show wp (z5j lv) Q H
 simp only[z5j,z7]
 refine z7b H lv ls hl _ fun H1 k1=>?_
 have hsm:=(z01 he).1
 have hl1:=hl.keep0 k1
 (try simp (maxSteps:=999999) (disch:=try exact ZD) only[ZB,zbcy,hl1.len,zpw])
 have kp:Keeps [] H1 (H1.push none):=Keeps.push _ _ _
 refine zs3 (α:=Port) (n:=5) rfl rfl rfl (hl1.keep0 kp) (by omega) (by omega) _ fun w H2 hw k2 fw=>?_
 have hb2:H2.get H1.next=none:=by rw[k2.same H1.next (by simp) (by simp)];exact Heap.get_push_self _ _
 have hb1:(H1.push none).get H1.next=none:=Heap.get_push_self _ _
 have hn2:=k2.next
 simp only[Heap.next_push'] at hn2 fw
 (try simp (maxSteps:=999999) (disch:=try exact ZD) only[ZB,zlt (bs:=[]) hb1 (by simp),zlt (bs:=[]) hb2 (by omega),Bool.and_true])
 refine zm9 (n:=ls.length) (c:=ls.length) hb2 (by omega) (by decide) (Nat.le_refl _) (by omega) (by omega) ?_
 have hwo:=hw.isOne
 (try simp (maxSteps:=999999) (disch:=try exact ZD) only[ZB,hwo])
 refine (zb0 (by simp[hwo])).mpr ?_
 (try simp (maxSteps:=999999) (disch:=try exact ZD) only[ZB])
 refine hQ _ _ (zbq ?_)
 have hk:Keeps [H1.next] H2 (H2.set H1.next (some (.cells true (rep ls.length [Value.slice none 0 0,Value.slice none 0 0,Value.int .i64 0,Value.int .i64 0])))):=Keeps.set (by simp)
 have hne:=k1.next
 exact ((k1.trans kp (fun _ _ h=>h)).trans k2 (fun _ _ h=>h)).trans hk (fun b hb hm=>by simp at hm;omega)
def zqd (s:Sy) (b:Bd):Int:=if b.kind=1 then (s.pts.getD b.n.toNat default).typ else if b.kind=2 then (s.prs.getD b.n.toNat default).typ else 0
def inB (s:Sy) (b:Bd):Prop:=(b.kind=1∧0≤b.n∧b.n < s.pts.length)∨(b.kind=2∧0≤b.n∧b.n < s.prs.length)
theorem zbuk (x:V):invG Tryz.prog (.iface zqu x) "capstan/exec.kind" = some (zgw,x):=by kernel_rfl
theorem zbxq (x:V):invG Tryz.prog (.iface ztc x) "capstan/exec.kind" = some (zhk,x):=by kernel_rfl
theorem zbxr {H:Heap} {x:SyV} {s:Sy} {S:zx} (h:SysAt H x s) (b:Bd) (hb:inB s b) (Q:V→Heap→Prop) (hQ:∀ H',Keeps [] H H'→Q (i64 (zqd s b)) H') :
  wp (invM Tryz.prog (ovr [(zgw,zlk),(zhk,znp),(zi0,zll),(zhi,zez)] S) (bdV b) "capstan/exec.kind" [.agg (x.cs s).toArray]) Q H:=by
 have ho:=h.one
 unfold SyV.cs at ho ⊢
 have k1:Keeps [] H (H.push (some (.cells true [x.pv,x.gv,x.qv,i64 s.frame,x.wv,x.uv,i64 s.millis]))):=Keeps.push _ _ _
 have g1:(H.push (some (.cells true [x.pv,x.gv,x.qv,i64 s.frame,x.wv,x.uv,i64 s.millis]))).get H.next=some (.cells true [x.pv,x.gv,x.qv,i64 s.frame,x.wv,x.uv,i64 s.millis]):=Heap.get_push_self _ _
 have q:=hQ _ k1
 unfold zqd at q
 unfold bdV
 rcases hb with⟨h1,h2,h3⟩ | ⟨h1,h2,h3⟩
 ·rw[if_pos h1,zbd2 (zbuk _),zbjw]
  rw[if_pos h1] at q
  show wp (zrb (i64 b.n) _) Q H
  unfold zrb
  rw[z7,z7]
  refine (zb0 ho).mpr ?_
  have hp:=h.pts.keep0 k1
  generalize H.push (some (.cells true [x.pv,x.gv,x.qv,i64 s.frame,x.wv,x.uv,i64 s.millis]))=H1 at *
  have a1:=hp.addr' (n:=2) rfl (k := .i64) (i:=b.n) h2 h3
  have c1:=hp.cell' (n:=2) rfl (off:=0) (i:=b.n.toNat) (by omega) (by omega) default
  rw[zbd] at c1
  have e1:(Flat.enc (s.pts.getD b.n.toNat default))[0]? = some (i64 (s.pts.getD b.n.toNat default).typ):=rfl
  rw[e1] at c1
  rw[Nat.add_zero] at c1
  (try simp (maxSteps:=999999) (disch:=try exact ZD) only[ZB,g1,a1,c1])
  exact q
 ·rw[if_neg (by omega),if_pos h1,zbd2 (zbxq _),zbov rfl,zbjw]
  rw[if_neg (by omega),if_pos h1] at q
  show wp (zs1 (i64 b.n) _) Q H
  unfold zs1
  rw[z7,z7]
  refine (zb0 ho).mpr ?_
  have hp:=h.prs.keep0 k1
  generalize H.push (some (.cells true [x.pv,x.gv,x.qv,i64 s.frame,x.wv,x.uv,i64 s.millis]))=H1 at *
  have a1:=hp.addr' (n:=5) rfl (k := .i64) (i:=b.n) h2 h3
  have c1:=hp.cell' (n:=5) rfl (off:=3) (i:=b.n.toNat) (by omega) (by omega) default
  rw[zbd] at c1
  have e1:(Flat.enc (s.prs.getD b.n.toNat default))[3]? = some (i64 (s.prs.getD b.n.toNat default).typ):=rfl
  rw[e1] at c1
  (try simp (maxSteps:=999999) (disch:=try exact ZD) only[ZB,g1,a1,c1])
  exact q
structure Ed where
 b:Bd
instance:Flat Ed:=⟨1,fun e=>[bdV e.b],fun _=>rfl,fun e=>by simp[zbvh],by decide⟩
theorem zbvj {H:Heap} {x:SyV} {s:Sy} {lv:V} {l:List Bd} (h:SysAt H x s) (hl:Sl H lv l) (hn:l.length≤32) (hb:∀ b∈l,inB s b) (Q:V→Heap→Prop)
  (hQ:∀ v w H',Hp H H' [own v (l.map Ed.mk),own w (l.map (zqd s))]→Q (.tuple #[v,w]) H'):wp (zt3 [.agg (x.cs s).toArray,lv]) Q H:=by
 show wp (z5k (.agg (x.cs s).toArray) lv) Q H
 have ho:=h.one
 have hsame:=h.same
 have hlen:=hl.len
 have h7:(x.cs s).length=7:=rfl
 have st:Hp H (H.push (some (.cells true (x.cs s)))) [cel H.next (x.cs s)]:=(Hp.start H).newc _
 unfold z5k
 rw[z7,z7]
 refine (zb0 ho).mpr ?_
 generalize H.push (some (.cells true (x.cs s)))=H1 at *
 (try simp (maxSteps:=999999) (disch:=try exact ZD) only[ZB,hlen])
 refine zbo l.length (by omega) (fun j vs H'=>∃ v w,vs=[ptr H.next 0,v,w,lv,i64 l.length,i64 j]∧Hp H H' [own v ((l.take j).map Ed.mk),own w ((l.take j).map (zqd s)),cel H.next (x.cs s)]) ⟨.slice none 0 0,.slice none 0 0,rfl,(st.nilo (α:=Int)).nilo (α:=Ed)⟩ ?_
 rintro j vs H2 hj ⟨v,w,rfl,s2⟩
 by_cases hlt:j < l.length
 case neg =>
  have:j=l.length:=by omega
  subst this
  rw[List.take_length] at s2
  (try simp (maxSteps:=999999) (disch:=try exact ZD) only[ZB,z10,zbc6])
  exact hQ v w H2 (s2.sub (by simp))
 have hts:l.take (j + 1)=l.take j ++ [l.getD j default]:=by
  rw[List.getD_eq_getElem?_getD,List.getElem?_eq_getElem hlt];exact List.take_succ_eq_append_getElem hlt
 have hbj:=hb _ (zbh (d:=default) hlt)
 have hl2:=s2.ro hl
 have a1:=hl2.addr' (n:=2) rfl (k := .i64) (i:=j) (by omega) (by omega)
 rw[Int.toNat_natCast] at a1
 have d1:=fun Q=>hl2.ldn' (Q:=Q) (n:=2) rfl hlt default
 have htl:(l.take j).length=j:=by rw[List.length_take];omega
 rw[hts,List.map_append,List.map_append]
 simp only[List.map_cons,List.map_nil]
 generalize l.getD j default=b at *
 have g2:=s2.get (i:=2) rfl
 (try simp (maxSteps:=999999) (disch:=try exact ZD) only[ZA,zo,zn,zm,zk,zi,zj,zg,ze,z10,zbc5,a1,d1,zxo])
 have s3:Hp H (H2.push (some (.cells true [i64 b.kind,i64 b.n]))) [cel H2.next [i64 b.kind,i64 b.n],own v ((l.take j).map Ed.mk),own w ((l.take j).map (zqd s)),cel H.next (x.cs s)]:=s2.newc _
 generalize H2.push (some (.cells true [i64 b.kind,i64 b.n]))=H3 at *
 have d3:=fun Q=>zbb (n:=2) (Q:=Q) (s3.get (i:=0) rfl) rfl
 (try simp (maxSteps:=999999) (disch:=try exact ZD) only[ZA,zo,zn,zm,zk,zi,zj,zg,ze,d3])
 refine zbjv b _ fun H4 k4=>?_
 have s4:=s3.keep0 k4
 have hone:=zbvh b
 (try simp (maxSteps:=999999) (disch:=try exact ZD) only[ZA,zo,zn,zm,zk,zi,zj,zg])
 refine zna (α:=Ed) (n:=1) (ys:=[⟨b⟩]) s4 (i:=1) rfl rfl (by decide) (by rw[ze hone (by decide),zb1];rfl) rfl (by simp[htl];omega) (by simp[htl];omega) fun v' H5 s5=>?_
 simp only[List.set_cons_succ,List.set_cons_zero] at s5
 have d5:=fun Q=>zbb (n:=2) (Q:=Q) (s5.get (i:=0) rfl) rfl
 have d5':=fun Q=>zbb (n:=7) (Q:=Q) (s5.get (i:=3) rfl) h7
 (try simp (maxSteps:=999999) (disch:=try exact ZD) only[ZA,zo,zn,zm,zk,zi,zj,zg,ze,d5,d5'])
 refine zbjv b _ fun H6 k6=>?_
 have s6:=s5.keep0 k6
 have ck:chk (ldn 7 (ptr H.next 0)) H6 (.agg (x.cs s).toArray)=true:=zbou (s6.get (i:=3) rfl) h7 hsame
 (try simp (maxSteps:=999999) (disch:=try exact ZD) only[ZA,zo,zn,zm,zk,zi,zg,ze])
 refine zbxr (h.keep0 s6.keeps) b hbj _ fun H7 k7=>?_
 have s7:=s6.keep0 k7
 (try simp (maxSteps:=999999) (disch:=try exact ZD) only[ZA,zo,zn,zm,zk,zi,zg,ze])
 refine zna (α:=Int) (n:=1) (ys:=[zqd s b]) s7 (i:=2) rfl rfl (by decide) (by rw[ze rfl (by decide),zb1];rfl) rfl (by simp[htl];omega) (by simp[htl];omega) fun w' H8 s8=>?_
 simp only[List.set_cons_succ,List.set_cons_zero] at s8
 (try simp (maxSteps:=999999) (disch:=try exact ZD) only[ZB,ck,zbc4])
 exact⟨hlt,v',w',rfl,s8.tail⟩
end Go.AM.Cap
