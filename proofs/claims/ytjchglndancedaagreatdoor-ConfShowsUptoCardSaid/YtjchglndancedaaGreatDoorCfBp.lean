import Derived.Test.YtjchglndancedaaGreatDoorCfBn
import Derived.Test.YtjchglndancedaaGreatDoorCfJ
import Derived.Lib.ItoaLen
import Derived.Test.YtjchglndancedaaGreatDoorAmIn
import Derived.Test.YtjchglndancedaaGreatDoorCfM
set_option linter.all false
/- conf: builders among things; a line that is written -/
set_option maxHeartbeats 8000000
namespace Go.AM.Cap
open Go.AM Go.Proofs
variable {H0 H:Heap} {L:List Thing}
def wrt (b:Nat) (bf:Option Nat) (l:List UInt8):Thing :=
 ⟨b :: bf.toList,fun H=>(∃ used,H.get b=some (.bld 74 used bf l.length))∧(match bf with | none=>l=[] | some g=>H.get g=some (.buf 5 l)∧l≠[]),
  fun _ h p=>by
   obtain⟨⟨u,hu⟩,q⟩:=p
   refine⟨⟨u,by rw[h b (by simp)];exact hu⟩,?_⟩
   cases bf with
   | none=>exact q
   | some g=>exact⟨by rw[h g (by simp)];exact q.1,q.2⟩,
  fun p c hc=>by
   obtain⟨⟨u,hu⟩,q⟩:=p
   rcases List.mem_cons.1 hc with rfl | hc
   ·exact Heap.get_lt hu
   ·cases bf with
    | none=>simp at hc
    | some g =>
     simp at hc
     subst hc
     exact Heap.get_lt q.1⟩
theorem zb3n {H:Heap} {Q:V→Heap→Prop} (t:TypeId):wp (bldM t (.agg [.pointer none,.slice none 0 0].toArray)) Q H↔Q (ptr H.next 0) (H.push (some (.bld t false none 0))):=by
 constructor
 ·rintro⟨r,H',h1,h2⟩
  cases h1
  exact h2
 ·intro hq;exact⟨_,_,rfl,hq⟩
theorem zb3o (h:Hp H0 H L):Hp H0 (H.push (some (.bld 74 false none 0))) (wrt H.next none [] :: L) :=
 h.add (Keeps.push _ _ _) ⟨⟨false,Heap.get_push_self _ _⟩,rfl⟩ (fun b hb=>by
  have hb':b∈[H.next]:=hb
  simp at hb';omega)
theorem zbv0 {i b:Nat} {bf:Option Nat} {l:List UInt8} (h:Hp H0 H L) (hi:L[i]? = some (wrt b bf l)) (x:List UInt8) (hx:x≠[]) (hl:l.length + x.length≤10000000000000) :
  ∃ H' bf',addM b x H=some H'∧Hp H0 H' (L.set i (wrt b bf' (l ++ x))):=by
 obtain⟨⟨u,hu⟩,q⟩:=h.at hi
 have hlt:=Heap.get_lt hu
 cases bf with
 | none =>
  have q:l=[]:=q
  subst q
  refine⟨_,some H.next,?_,h.step (t':=wrt b (some H.next) ([] ++ x)) hi (H':=(H.push (some (.buf 5 x))).set b (some (.bld 74 true (some H.next) x.length))) ?_ ⟨⟨true,?_⟩,?_,?_⟩ ?_⟩
  ·unfold addM
   rw[hu]
   exact if_pos ⟨rfl,rfl,hx,by simpa using hl⟩
  ·exact zb7 (Keeps.push _ _ _) (.inl (by simp[wrt]))
  ·rw[Heap.get_set_self (by simp;omega)];rfl
  ·rw[Heap.get_set_ne _ _ _ (by omega),Heap.get_push_self];rfl
  ·simpa using hx
  ·intro c hc
   simp only[wrt,Option.toList_some,List.mem_cons,List.not_mem_nil,or_false] at hc
   rcases hc with rfl | rfl
   ·exact .inl (by simp[wrt])
   ·exact .inr (Nat.le_refl _)
 | some g =>
  obtain⟨q1,q2⟩:H.get g=some (.buf 5 l)∧l≠[]:=q
  have hgl:=Heap.get_lt q1
  have hgb:g≠b:=fun e=>by subst e;rw[hu] at q1;cases q1
  have hl0:l.length≠0:=by simpa using q2
  refine⟨_,some H.next,?_,h.step (t':=wrt b (some H.next) (l ++ x)) hi (H':=((H.set g none).push (some (.buf 5 (l ++ x)))).set b (some (.bld 74 true (some H.next) (l.length + x.length)))) ?_ ⟨⟨true,?_⟩,?_,?_⟩ ?_⟩
  ·unfold addM
   rw[hu]
   simp only[q1]
   exact if_pos ⟨trivial,trivial,trivial,hl0,hl⟩
  ·refine zb7 (zbq (Keeps.set (by simp[wrt]))) (.inl (by simp[wrt]))
  ·rw[Heap.get_set_self (by simp;omega),List.length_append]
  ·have:(H.set g none).next=H.next:=by simp
   rw[Heap.get_set_ne _ _ _ (by omega),← this,Heap.get_push_self]
  ·simp[q2]
  ·intro c hc
   simp only[wrt,Option.toList_some,List.mem_cons,List.not_mem_nil,or_false] at hc
   rcases hc with rfl | rfl
   ·exact .inl (by simp[wrt])
   ·exact .inr (Nat.le_refl _)
theorem zb0v {i b:Nat} {bf:Option Nat} {l:List UInt8} {Q:V→Heap→Prop} (h:Hp H0 H L) (hi:L[i]? = some (wrt b bf l)) (s:ByteArray) (hs:s.size≠0) (hl:l.length + s.size≤10000000000000)
  (hQ:∀ bf' H',Hp H0 H' (L.set i (wrt b bf' (l ++ s.data.toList)))→Q (.tuple #[i64 s.size,.nilIface]) H'):wp (zku [ptr b 0,.string s]) Q H:=by
 have hz:s.data.toList.length=s.size:=by rw[Array.length_toList];rfl
 obtain⟨H',bf',h1,h2⟩:=zbv0 h hi s.data.toList (fun e=>hs (by rw[← hz,e];rfl)) (by rw[hz];exact hl)
 refine⟨_,H',?_,hQ bf' H' h2⟩
 show zku [.pointer (some ⟨b,0,none⟩),.string s] H=_
 unfold zku
 simp only[h1]
theorem zb4k {i b:Nat} {bf:Option Nat} {l:List UInt8} {Q:V→Heap→Prop} (h:Hp H0 H L) (hi:L[i]? = some (wrt b bf l)) (c:Int) (h0:0≤c) (h1:c < 256) (hl:l.length + 1≤10000000000000)
  (hQ:∀ bf' H',Hp H0 H' (L.set i (wrt b bf' (l ++ [UInt8.ofNat c.toNat])))→Q .nilIface H'):wp (zgq [ptr b 0,.int .u8 c]) Q H:=by
 obtain⟨H',bf',g1,g2⟩:=zbv0 h hi [UInt8.ofNat c.toNat] (by simp) (by simpa using hl)
 refine⟨_,H',?_,hQ bf' H' g2⟩
 show zgq [.pointer (some ⟨b,0,none⟩),.int .u8 c] H=_
 unfold zgq
 simp only[h0,h1,and_self,if_true,g1]
def zn4 (H:Heap):Prop:=H.get 5=some (.cells false (Lib.pow10Tab.map fun z=>Value.int .u64 z))
theorem zn4.keep0 {H H':Heap} (h:zn4 H) (hk:Keeps [] H H'):zn4 H':=hk.get h (by simp)
open Classical in
noncomputable def zkv (args:List V):M V:=fun H=>match args with
 | [.int .i64 n]=>if -9223372036854775808≤n∧n≤9223372036854775807∧zn4 H then some (.string ⟨(Lib.itoa n).toArray⟩,H) else none
 | _=>none
theorem zb3p {Q:V→Heap→Prop} (n:Int) (hp:zn4 H) (h0:-9223372036854775808≤n) (h1:n≤9223372036854775807) (hQ:Q (.string ⟨(Lib.itoa n).toArray⟩) H):wp (zkv [i64 n]) Q H :=
 ⟨_,_,by show zkv [.int .i64 n] H=_;unfold zkv;simp only[h0,h1,hp,and_self,if_true],hQ⟩
inductive Wd where
 | n (i:Int)
 | s (x:ByteArray)
def Wd.v:Wd→V
 | .n i => .iface zfe (i64 i)
 | .s x => .iface zcz (.string x)
instance:Inhabited Wd:=⟨.n 0⟩
instance:Flat Wd:=⟨1,fun d=>[d.v],fun _=>rfl,fun d=>by cases d <;> rfl,by decide⟩
def zbgv:Wd→List UInt8
 | .n i=>Lib.itoa i
 | .s x=>x.data.toList
def Wd.Ok:Wd→Prop
 | .n i=>-9223372036854775808≤i∧i≤9223372036854775807
 | .s x=>x.size≠0∧x.size≤10000
def zuk (ws:List Wd):List UInt8:=ws.flatMap fun d=>32 :: zbgv d
def ze4 (w:ByteArray) (ws:List Wd):List UInt8:=w.data.toList ++ zuk ws ++ [10]
theorem zbso (n:Int):(Lib.itoa n).length≠0:=by
 unfold Lib.itoa
 split
 ·simp
 ·rw[Lib.decDigits_length];have:=Lib.nDigits_pos n.toNat;omega
theorem zbfu {d:Wd} (h:d.Ok):(zbgv d).length≠0∧(zbgv d).length≤10000:=by
 cases d with
 | n i =>
  have:=Lib.itoa_length_le i h.1 h.2
  exact⟨zbso i,by show (Lib.itoa i).length≤_;omega⟩
 | s x =>
  have hz:x.data.toList.length=x.size:=by rw[Array.length_toList];rfl
  exact⟨by show x.data.toList.length≠0;rw[hz];exact h.1,by show x.data.toList.length≤_;rw[hz];exact h.2⟩
theorem zbbr:∀ {ws:List Wd},(∀ d∈ws,d.Ok)→(zuk ws).length≤10001 * ws.length
 | [],_=>by simp[zuk]
 | d :: ws,h=>by
  have h1:=zbfu (h d (by simp))
  have h2:=zbbr (ws:=ws) (fun e he=>h e (by simp[he]))
  simp only[zuk,List.flatMap_cons,List.length_append,List.length_cons] at h2 ⊢
  omega
theorem zbec (s:ByteArray):s.data.toList.length=s.size:=by rw[Array.length_toList];rfl
theorem zbsp {b:Nat} {bf:Option Nat} {l:List UInt8} {v:V} {w:ByteArray} {ws:List Wd} (hP:zn4 H0) (h:Hp H0 H (wrt b bf l :: own v ws :: L)) (hw:w.size≠0∧w.size≤10000) (hws:∀ d∈ws,d.Ok) (hn:ws.length≤10) (hl:l.length≤9000000000000) (Q:V→Heap→Prop)
  (hQ:∀ bf' H',Hp H0 H' (wrt b bf' (l ++ ze4 w ws) :: own v ws :: L)→Q (.tuple #[]) H'):wp (zbe zku zgq zkv [ptr b 0,.string w,v]) Q H:=by
 show wp (zpp zku zgq zkv (ptr b 0) (.string w) v) Q H
 have hvl:=(h.own (i:=1) rfl).sl.len
 (try simp (maxSteps:=999999) (disch:=try exact ZD) only[ZB,zpp])
 refine zb0v h (i:=0) rfl w hw.1 (by omega) fun bf1 H1 s1=>?_
 simp only[List.set_cons_zero] at s1
 (try simp (maxSteps:=999999) (disch:=try exact ZD) only[ZB,hvl])
 refine zbo ws.length (by omega) (fun j vs H'=>∃ bf',vs=[ptr b 0,v,i64 ws.length,i64 j]∧Hp H0 H' (wrt b bf' (l ++ w.data.toList ++ zuk (ws.take j)) :: own v ws :: L)) ⟨bf1,rfl,by simpa[zuk] using s1⟩ ?_
 rintro j vs H2 hj ⟨bf2,rfl,s2⟩
 have hwl:=zbbr (ws:=ws.take j) (fun d hd=>hws d (List.mem_of_mem_take hd))
 have htl:(ws.take j).length=j:=by rw[List.length_take];omega
 rw[htl] at hwl
 have hdl:=zbec w
 by_cases hlt:j < ws.length
 case neg =>
  have:j=ws.length:=by omega
  subst this
  rw[List.take_length] at s2 hwl
  (try simp (maxSteps:=999999) (disch:=try exact ZD) only[ZB,zog,zux])
  refine zb4k s2 (i:=0) rfl 10 (by decide) (by decide) (by simp only[List.length_append];omega) fun bf3 H3 s3=>?_
  simp only[List.set_cons_zero] at s3
  (try simp (maxSteps:=999999) (disch:=try exact ZD) only[ZB])
  exact hQ bf3 H3 (by simpa[ze4] using s3)
 have hts:ws.take (j + 1)=ws.take j ++ [ws.getD j default]:=by
  rw[List.getD_eq_getElem?_getD,List.getElem?_eq_getElem hlt];exact List.take_succ_eq_append_getElem hlt
 have hok:=hws _ (zbh (d:=default) hlt)
 have o2:=(s2.own (i:=1) rfl).sl
 have a1:=o2.addr1 rfl (k := .i64) (i:=j) (by omega) (by omega)
 rw[Int.toNat_natCast] at a1
 have c1:=o2.cell1 rfl hlt default
 rw[zbd] at c1
 have e1:(Flat.enc (ws.getD j default))[0]? = some (ws.getD j default).v:=rfl
 rw[e1] at c1
 have hnext:zuk (ws.take (j + 1))=zuk (ws.take j) ++ (32 :: zbgv (ws.getD j default)):=by
  rw[hts];simp[zuk]
 rw[hnext]
 generalize ws.getD j default=d at *
 (try simp (maxSteps:=999999) (disch:=try exact ZD) only[ZB,zog,zuw,a1,c1])
 refine zb4k s2 (i:=0) rfl 32 (by decide) (by decide) (by simp only[List.length_append];omega) fun bf3 H3 s3=>?_
 simp only[List.set_cons_zero] at s3
 have hlen:=zbfu hok
 cases d with
 | n i =>
  have t1:zx5 zfe (some (Value.int .i64 0)) true (Wd.v (.n i))=some (.tuple #[i64 i,.bool true]):=rfl
  (try simp (maxSteps:=999999) (disch:=try exact ZD) only[ZB,t1])
  refine zb3p i (hP.keep0 s3.keeps) hok.1 hok.2 ?_
  have hz:(⟨(Lib.itoa i).toArray⟩:ByteArray).size=(Lib.itoa i).length:=by rw[← zbec]
  (try simp (maxSteps:=999999) (disch:=try exact ZD) only[ZB])
  refine zb0v s3 (i:=0) rfl ⟨(Lib.itoa i).toArray⟩ (by rw[hz];exact zbso i) (by rw[hz];have:(Lib.itoa i).length≤10000:=hlen.2;simp only[List.length_append,List.length_cons,List.length_nil];omega) fun bf4 H4 s4=>?_
  simp only[List.set_cons_zero] at s4
  (try simp (maxSteps:=999999) (disch:=try exact ZD) only[ZB,zof])
  exact⟨hlt,bf4,rfl,by simpa[zbgv] using s4⟩
 | s x =>
  have t1:zx5 zfe (some (Value.int .i64 0)) true (Wd.v (.s x))=some (.tuple #[.int .i64 0,.bool false]):=rfl
  have t2:zx5 zcz (some (Value.string ⟨#[]⟩)) true (Wd.v (.s x))=some (.tuple #[.string x,.bool true]):=rfl
  (try simp (maxSteps:=999999) (disch:=try exact ZD) only[ZB,t1,t2])
  refine zb0v s3 (i:=0) rfl x hok.1 (by have:=hok.2;simp only[List.length_append,List.length_cons,List.length_nil];omega) fun bf4 H4 s4=>?_
  simp only[List.set_cons_zero] at s4
  (try simp (maxSteps:=999999) (disch:=try exact ZD) only[ZB,zof])
  exact⟨hlt,bf4,rfl,by simpa[zbgv] using s4⟩
end Go.AM.Cap

/- conf: what is shown; a line whose words are laid; the loop over points -/
set_option maxHeartbeats 8000000
namespace Go.AM.Cap
open Go.AM Go.Proofs
variable {H0 H:Heap} {L:List Thing}
def zxs (t:Int):ByteArray:=[zol,zbgq,kInt,zbgr].getD t.toNat zol
def levW (t:Int):ByteArray:=[zol,zbgs,kRun,z7f,z7g].getD t.toNat zol
def zr7 (p:Pt):List UInt8:=ze4 (if p.out then kOut else kIn) [.s (zxs p.typ)]
def zr8 (g:Gr):List UInt8:=ze4 (if g.write then zs5 else zbr4) [.n g.part,.n g.point]
def zkh (q:Port):List UInt8:=if q.kind=1 then ze4 zbhd [.n q.src,.n q.dst,.s (zxs q.typ)] else ze4 z2h [.n q.src,.n q.dst,.s (zxs q.typ),.n q.cap]
def zki (w:Win):List UInt8:=if w.part < 0 then ze4 zbvk [.n w.start,.n w.len] else ze4 zbhe [.n w.part,.n w.start,.n w.len]
def zjl (k:ByteArray) (b:Bd):List UInt8:=ze4 k [.s (if b.kind=1 then zkg else zr5),.n b.n]
def zns (u:PUn):List UInt8:=ze4 zbgo [] ++ u.ins.flatMap (zjl z34) ++ u.outs.flatMap (zjl kPut)
def zxt (s:Sy):List UInt8:=s.pts.flatMap zr7 ++ s.grs.flatMap zr8 ++ s.prs.flatMap zkh ++ s.wins.flatMap zki ++ s.uns.flatMap zns
theorem znt {b:Nat} {bf:Option Nat} {l:List UInt8} {w:ByteArray} (ws:List Wd) {n:Nat} (hP:zn4 H0) (h:Hp H0 H (wrt b bf l :: L)) (hw:w.size≠0∧w.size≤10000) (hws:∀ d∈ws,d.Ok) (hn:ws.length≤10) (hnn:ws.length=n) (hl:l.length≤9000000000000) (Q:V→Heap→Prop)
  (hQ:∀ bf' H',Hp H0 H' (wrt b bf' (l ++ ze4 w ws) :: L)→Q (.tuple #[]) H'):wp (zbe zku zgq zkv [ptr b 0,.string w,slc H.next 0 1 n n]) Q (H.push (some (.cells true (zbj ws)))):=by
 have s1:=(h.newo (α:=Wd) (n:=1) (m:=n) ws rfl hnn).perm (List.Perm.swap _ _ _)
 exact zbsp hP s1 hw hws hn hl Q fun bf' H' s2=>hQ bf' H' (s2.sub (by simp))
theorem zb0w {b:Nat} {bf:Option Nat} {l:List UInt8} {w:ByteArray} (hP:zn4 H0) (h:Hp H0 H (wrt b bf l :: L)) (hw:w.size≠0∧w.size≤10000) (hl:l.length≤9000000000000) (Q:V→Heap→Prop)
  (hQ:∀ bf' H',Hp H0 H' (wrt b bf' (l ++ ze4 w []) :: L)→Q (.tuple #[]) H'):wp (zbe zku zgq zkv [ptr b 0,.string w,.slice none 0 0]) Q H:=by
 have s1:=(h.nilo (α:=Wd)).perm (List.Perm.swap _ _ _)
 exact zbsp hP s1 hw (by simp) (by simp) hl Q fun bf' H' s2=>hQ bf' H' (s2.sub (by simp))
theorem z79 {Q:V→Heap→Prop} (c:Bool) (a b:ByteArray):wp (ziv [.bool c,.string a,.string b]) Q H↔Q (.string (if c then a else b)) H:=by
 show wp (zzv (.bool c) (.string a) (.string b)) Q H↔_
 unfold zzv
 cases c
 ·(try simp (maxSteps:=999999) (disch:=try exact ZD) only[ZB,zw1])
  first | done | exact Iff.rfl
 ·(try simp (maxSteps:=999999) (disch:=try exact ZD) only[ZB,zw1])
  first | done | exact Iff.rfl
theorem zc2 {α:Type} {l:List α} {d:α} {j:Nat} (h:j < l.length):l.take (j + 1)=l.take j ++ [l.getD j d]:=by
 rw[List.getD_eq_getElem?_getD,List.getElem?_eq_getElem h];exact List.take_succ_eq_append_getElem h
theorem zby {α:Type} {f:α→List UInt8} {m:Nat}:∀ {l:List α},(∀ x∈l,(f x).length≤m)→(l.flatMap f).length≤m * l.length
 | [],_=>by simp
 | x :: l,h=>by
  have h1:=h x (by simp)
  have h2:=zby (l:=l) (fun y hy=>h y (by simp[hy]))
  rw[List.flatMap_cons,List.length_append,List.length_cons,Nat.mul_add]
  omega
theorem zc7 {w:ByteArray} {ws:List Wd} (hw:w.size≤10000) (hws:∀ d∈ws,d.Ok) (hn:ws.length≤4):(ze4 w ws).length≤60000:=by
 have h1:=zbbr hws
 have h2:=zbec w
 simp only[ze4,List.length_append,List.length_cons,List.length_nil]
 omega
theorem zkw {t:Int} (h0:1≤t) (h1:t≤3):(Wd.s (zxs t)).Ok:=by
 obtain rfl | rfl | rfl:t=1∨t=2∨t=3:=by omega
 all_goals exact⟨by decide,by decide⟩
theorem zbm0 (hT:Tabs H) {t:Int} (h0:1≤t) (h1:t≤3):zn5 4 1 (ptr gid_conf_types 0) (i64 t)=some (ptr gid_conf_types t.toNat)∧zes (H.get gid_conf_types) t.toNat=some (.string (zxs t))∧gid_conf_types < H.next:=by
 obtain⟨r,hg⟩:=hT.types
 rw[hg]
 obtain rfl | rfl | rfl:t=1∨t=2∨t=3:=by omega
 all_goals exact⟨rfl,rfl,Heap.get_lt hg⟩
theorem zm5 {t u:Thing} (h:Hp H0 H (t :: u :: L)):Hp H0 H (t :: L):=h.sub (List.Sublist.cons₂ _ (List.Sublist.cons _ (List.Sublist.refl _)))
theorem znu {t u:Thing} (h:Hp H0 H (t :: u :: L)):Hp H0 H (u :: t :: L):=h.perm (List.Perm.swap _ _ _)
theorem zb53 {b P:Nat} {bf:Option Nat} {l:List UInt8} {x:SyV} {s:Sy} (hP:zn4 H0) (hT:Tabs H0) (hs:SysAt H0 x s) (hty:∀ p∈s.pts,1≤p.typ∧p.typ≤3) (hn:s.pts.length≤64) (hl:l.length≤1000000000) (h:Hp H0 H (wrt b bf l :: cel P (x.cs s) :: L)) (Q:Out→Heap→Prop)
  (hQ:∀ bf' H',Hp H0 H' (wrt b bf' (l ++ s.pts.flatMap zr7) :: cel P (x.cs s) :: L)→Q (.brk 0 [ptr b 0,ptr P 0]) H') :
  wp (zba zbm (zhv zku zgq zkv) [ptr b 0,ptr P 0,x.pv,i64 s.pts.length,i64 0]) Q H:=by
 refine zbo s.pts.length (by omega) (fun j vs H'=>∃ bf',vs=[ptr b 0,ptr P 0,x.pv,i64 s.pts.length,i64 j]∧Hp H0 H' (wrt b bf' (l ++ (s.pts.take j).flatMap zr7) :: cel P (x.cs s) :: L)) ⟨bf,rfl,by simpa using h⟩ ?_
 rintro j vs H1 hj ⟨bf1,rfl,s1⟩
 by_cases hlt:j < s.pts.length
 case neg =>
  have:j=s.pts.length:=by omega
  subst this
  rw[List.take_length] at s1
  (try simp (maxSteps:=999999) (disch:=try exact ZD) only[ZB,zhv])
  exact hQ bf1 H1 s1
 have hp:=s1.ro hs.pts
 have a1:=hp.addr' (n:=2) rfl (k := .i64) (i:=j) (by omega) (by omega)
 rw[Int.toNat_natCast] at a1
 have d1:=fun Q=>hp.ldn' (Q:=Q) (n:=2) rfl hlt default
 have hty1:=hty _ (zbh (d:=default) hlt)
 have hacc:((s.pts.take j).flatMap zr7).length≤60000 * (s.pts.take j).length:=zby fun p hp=>zc7 (by cases p.out <;> decide) (fun d hd=>by
  simp only[List.mem_cons,List.not_mem_nil,or_false] at hd
  subst hd
  have:=hty p (List.mem_of_mem_take hp)
  exact zkw this.1 this.2) (by simp)
 have htl:(s.pts.take j).length=j:=by rw[List.length_take];omega
 rw[htl] at hacc
 rw[zc2 (d:=default) hlt]
 simp only[List.flatMap_append,List.flatMap_cons,List.flatMap_nil,List.append_nil]
 generalize s.pts.getD j default=p at *
 obtain⟨ty,out⟩:=p
 simp only at hty1
 (try simp (maxSteps:=999999) (disch:=try exact ZD) only[ZA,zo,zn,zm,zk,zi,zj,zg,ze,zhv,zsj,a1,d1,zbua])
 have s2:Hp H0 (H1.push (some (.cells true [i64 ty,.bool out]))) (wrt b bf1 (l ++ (s.pts.take j).flatMap zr7) :: cel H1.next [i64 ty,.bool out] :: cel P (x.cs s) :: L):=(s1.newc _).perm (List.Perm.swap _ _ _)
 generalize hH2:H1.push (some (.cells true [i64 ty,.bool out]))=H2 at *
 generalize H1.next=X at *
 have g2:=s2.get (i:=1) rfl
 have kp:Keeps [] H2 (H2.push none):=Keeps.push _ _ _
 have gn:(H2.push none).get H2.next=none:=Heap.get_push_self _ _
 have ln:H2.next < (H2.push none).next:=by simp
 have gX:=kp.get g2 (by simp)
 obtain⟨tc1,tc2,tc3⟩:=zbm0 ((hT.keep0 s2.keeps).keep0 kp) hty1.1 hty1.2
 rw[zpw,z4o]
 (try simp (maxSteps:=999999) (disch:=try exact ZD) only[ZB,gX,tc1,tc2,z79,zlt (bs:=[]) gn ln,Bool.and_true])
 refine ztv (cs:=zbj [Wd.s (zxs ty)]) gn ln (by decide) (by show zbu [Value.nilIface] _=_;rw[ze rfl (by decide),zb1];rfl) ?_
 rw[Heap.set_push_eq rfl]
 (try simp (maxSteps:=999999) (disch:=try exact ZD) only[ZB])
 refine znt [.s (zxs ty)] hP s2 (by cases out <;> decide) (fun d hd=>by
  simp only[List.mem_cons,List.not_mem_nil,or_false] at hd
  subst hd
  exact zkw hty1.1 hty1.2) (by simp) rfl (by simp only[List.length_append];omega) _ fun bf' H' s3=>?_
 (try simp (maxSteps:=999999) (disch:=try exact ZD) only[ZB,gX,tc1,tc2,zsi])
 exact⟨hlt,bf',rfl,by
  have s4:=zm5 s3
  rw[List.append_assoc] at s4
  exact s4⟩
end Go.AM.Cap
