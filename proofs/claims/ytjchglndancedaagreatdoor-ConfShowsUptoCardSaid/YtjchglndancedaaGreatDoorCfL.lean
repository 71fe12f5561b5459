import Derived.Test.YtjchglndancedaaGreatDoorCfJ
import Derived.Test.YtjchglndancedaaGreatDoorAmIn
set_option linter.all false
/- conf: what a text is as a setup, in plain Lean -/
set_option maxHeartbeats 8000000
namespace Go.AM.Cap
open Go.AM Go.Proofs
def zgp {α:Type} [DecidableEq α] (c:α):List α→List (List α)
 | []=>[[]]
 | b :: l=>if b=c then [] :: zgp c l else ((b :: (zgp c l).headD []) :: (zgp c l).tail)
theorem zbfo {α:Type} [DecidableEq α] (c:α):∀ l:List α,zgp c l≠[]
 | []=>by simp[zgp]
 | b :: l=>by
  unfold zgp
  by_cases h:b=c <;> simp[h]
theorem zz2 {α:Type} [DecidableEq α] (c:α):∀ l:List α,(zgp c l).length≤l.length + 1
 | []=>by simp[zgp]
 | b :: l=>by
  have:=zz2 c l
  unfold zgp
  by_cases h:b=c
  ·rw[if_pos h];simp;omega
  ·rw[if_neg h,List.length_cons,List.length_tail,List.length_cons];omega
theorem z2g {α:Type} [DecidableEq α] (c:α):∀ l:List α,∀ w∈zgp c l,w.length≤l.length
 | [],w,h=>by simp[zgp] at h;subst h;simp
 | b :: l,w,h=>by
  unfold zgp at h
  by_cases hb:b=c
  ·rw[if_pos hb] at h
   rcases List.mem_cons.1 h with rfl | h
   ·simp
   ·have:=z2g c l w h;simp;omega
  ·rw[if_neg hb] at h
   rcases List.mem_cons.1 h with rfl | h
   ·have hm:(zgp c l).headD []∈zgp c l:=by
     cases e:zgp c l with
     | nil=>exact absurd e (zbfo c l)
     | cons a b=>simp
    have:=z2g c l _ hm
    simp only[List.length_cons];omega
   ·have:=z2g c l w (List.mem_of_mem_tail h);simp;omega
def zc1 (c:BitVec 8) (s:ByteArray):List ByteArray:=(zgp c (bv s)).map sv
theorem zbmu (c:BitVec 8) (s:ByteArray):zc1 c s≠[]:=by simp[zc1,zbfo]
def zhz:ByteArray:=⟨#[109,105,108,108,105,115]⟩
def zkf:ByteArray:=⟨#[102,114,97,109,101]⟩
def zso:ByteArray:=⟨#[105,100,108,101]⟩
def kIn:ByteArray:=⟨#[105,110]⟩
def kOut:ByteArray:=⟨#[111,117,116]⟩
def zbr4:ByteArray:=⟨#[114,101,97,100]⟩
def zs5:ByteArray:=⟨#[119,114,105,116,101]⟩
def zbhd:ByteArray:=⟨#[115,97,109,112,108,101]⟩
def z2h:ByteArray:=⟨#[113,117,101,117,101]⟩
def zbhe:ByteArray:=⟨#[119,105,110,100,111,119]⟩
def zbvk:ByteArray:=⟨#[101,110,103,105,110,101,101,114,115]⟩
def zbgo:ByteArray:=⟨#[117,110,105,116]⟩
def z34:ByteArray:=⟨#[103,101,116]⟩
def kPut:ByteArray:=⟨#[112,117,116]⟩
def zbgp:ByteArray:=⟨#[117,115,101,114]⟩
def zbvl:ByteArray:=⟨#[114,111,108,101]⟩
def zbgq:ByteArray:=⟨#[98,111,111,108]⟩
def kInt:ByteArray:=⟨#[105,110,116]⟩
def zbgr:ByteArray:=⟨#[100,105,110,116]⟩
def zbgs:ByteArray:=⟨#[118,105,101,119]⟩
def kRun:ByteArray:=⟨#[114,117,110]⟩
def z7f:ByteArray:=⟨#[98,117,105,108,100]⟩
def z7g:ByteArray:=⟨#[102,111,114,99,101]⟩
def zkg:ByteArray:=⟨#[112,111,105,110,116]⟩
def zr5:ByteArray:=⟨#[112,111,114,116]⟩
def zol:ByteArray:=⟨#[]⟩
def zuj:ByteArray:=⟨#[48,49,50,51,52,53,54,55,56,57]⟩
def zyu:ByteArray:=⟨#[48,49,50,51,52,53,54,55,56,57,97,98,99,100,101,102]⟩
def z3s (b:BitVec 8):Bool:=decide (48≤b.toNat∧b.toNat≤57)
def decL (n:Nat):List (BitVec 8)→Nat
 | []=>n
 | b :: l=>decL (n * 10 + (b.toNat - 48)) l
def zz3 (w:ByteArray):Int × Bool :=
 if w.size=0∨w.size > 10∨(bv w).all z3s=false∨(w.size > 1∧(bv w).headD 0=48#8) then (0,false) else (decL 0 (bv w),decide (decL 0 (bv w)≤1000000000))
def zm3 (ws:List ByteArray) (many:Nat):Option (List Int):=if ws.all (fun w=>(zz3 w).2)=true∧ws.length=many then some (ws.map fun w=>(zz3 w).1) else none
def zgk (w:ByteArray):Int:=if w=zbgq then 1 else if w=kInt then 2 else if w=zbgr then 3 else 0
def zhs (w:ByteArray):Int:=if w=zbgs then 1 else if w=kRun then 2 else if w=z7f then 3 else if w=z7g then 4 else 0
def hexD (b:BitVec 8):Option Nat:=if 48≤b.toNat∧b.toNat≤57 then some (b.toNat - 48) else if 97≤b.toNat∧b.toNat≤102 then some (b.toNat - 87) else none
def zom:List (BitVec 8)→Option (List (BitVec 8))
 | []=>some []
 | [_]=>none
 | a :: b :: l=>match hexD a,hexD b,zom l with
  | some x,some y,some r=>some (BitVec.ofNat 8 (x * 16 + y) :: r)
  | _,_,_=>none
def hasW (l:List ByteArray) (w:ByteArray):Bool:=l.any fun x=>decide (w=x)
structure RSt where
 sy:Sy
 us:List PUs
 idle:Int
 once:List ByteArray
 deriving DecidableEq,Inhabited
def z03:RSt:=⟨⟨[],[],[],0,[],[],0⟩,[],0,[]⟩
abbrev wAt (ws:List ByteArray) (i:Nat):ByteArray:=ws.getD i zol
def zo8 (st:RSt) (k:ByteArray) (n:Int):RSt :=
 let st':={ st with once:=st.once ++ [k] }
 if k=zhz then { st' with sy:={ st.sy with millis:=n } } else if k=zkf then { st' with sy:={ st.sy with frame:=n } } else { st' with idle:=n }
def addP (st:RSt) (p:Pt):RSt:={ st with sy:={ st.sy with pts:=st.sy.pts ++ [p] } }
def addG (st:RSt) (g:Gr):RSt:={ st with sy:={ st.sy with grs:=st.sy.grs ++ [g] } }
def addQ (st:RSt) (q:Port):RSt:={ st with sy:={ st.sy with prs:=st.sy.prs ++ [q] } }
def addW (st:RSt) (w:Win):RSt:={ st with sy:={ st.sy with wins:=st.sy.wins ++ [w] } }
def addU (st:RSt):RSt:={ st with sy:={ st.sy with uns:=st.sy.uns ++ [⟨[],[]⟩] } }
def zbvm (us:List PUn):PUn:=us.getD (us.length - 1) default
def addB (st:RSt) (get:Bool) (b:Bd):RSt :=
 let u:=zbvm st.sy.uns
 let u':PUn:=if get then ⟨u.ins ++ [b],u.outs⟩ else ⟨u.ins,u.outs ++ [b]⟩
 { st with sy:={ st.sy with uns:=st.sy.uns.set (st.sy.uns.length - 1) u' } }
def addS (st:RSt) (u:PUs):RSt:={ st with us:=st.us ++ [u] }
def addR (st:RSt) (r:Rl):RSt :=
 let u:=st.us.getD (st.us.length - 1) default
 { st with us:=st.us.set (st.us.length - 1) ⟨u.name,u.key,u.rs ++ [r]⟩ }
def zvp (st:RSt) (ws:List ByteArray):Option RSt:=if ws.length=2∧zgk (wAt ws 1)≠0 then some (addP st ⟨zgk (wAt ws 1),decide (wAt ws 0=kOut)⟩) else none
def z2i (st:RSt) (ws:List ByteArray):Option RSt:=match zm3 (ws.drop 1) 2 with
 | some l=>some (addG st ⟨l.getD 0 0,l.getD 1 0,decide (wAt ws 0=zs5)⟩)
 | none=>none
def z7h (st:RSt) (ws:List ByteArray):Option RSt :=
 let q:=decide (wAt ws 0=z2h)
 if ws.length=(if q then 5 else 4)∧zgk (wAt ws 3)≠0 then match zm3 ((ws.drop 1).take 2 ++ ws.drop 4) (if q then 3 else 2) with
  | some l=>some (addQ st ⟨if q then 2 else 1,l.getD 0 0,l.getD 1 0,zgk (wAt ws 3),if q then l.getD 2 0 else 0⟩)
  | none=>none
 else none
def zxq (st:RSt) (ws:List ByteArray):Option RSt:=match zm3 (ws.drop 1) 3 with
 | some l=>some (addW st ⟨l.getD 0 0,l.getD 1 0,l.getD 2 0⟩)
 | none=>none
def zbbn (st:RSt) (ws:List ByteArray):Option RSt:=match zm3 (ws.drop 1) 2 with
 | some l=>some (addW st ⟨-1,l.getD 0 0,l.getD 1 0⟩)
 | none=>none
def zbbo (st:RSt) (ws:List ByteArray):Option RSt:=if ws.length=1 then some (addU st) else none
def zfa (w:ByteArray):Int:=if w=zkg then 1 else if w=zr5 then 2 else 0
def zs6 (st:RSt) (ws:List ByteArray):Option RSt :=
 if ws.length=3∧st.sy.uns≠[]∧zfa (wAt ws 1)≠0∧(zz3 (wAt ws 2)).2=true then some (addB st (decide (wAt ws 0=z34)) ⟨zfa (wAt ws 1),(zz3 (wAt ws 2)).1⟩) else none
def z2j (st:RSt) (ws:List ByteArray):Option RSt:=if ws.length=3 then match zom (bv (wAt ws 2)) with
  | some k=>some (addS st ⟨wAt ws 1,sv k,[]⟩)
  | none=>none
 else none
def zs7 (st:RSt) (ws:List ByteArray):Option RSt :=
 if ws.length=3∧st.us≠[]∧zhs (wAt ws 2)≠0∧(zz3 (wAt ws 1)).2=true then some (addR st ⟨(zz3 (wAt ws 1)).1,zhs (wAt ws 2)⟩) else none
inductive Kw where
 | single | point | grant | port | window | engs | unit | bind | user | role
 deriving DecidableEq
def kwOf (w:ByteArray):Option Kw :=
 if w=zhz then some .single else if w=zkf then some .single else if w=zso then some .single else
 if w=kIn then some .point else if w=kOut then some .point else if w=zbr4 then some .grant else if w=zs5 then some .grant else
 if w=zbhd then some .port else if w=z2h then some .port else if w=zbhe then some .window else if w=zbvk then some .engs else
 if w=zbgo then some .unit else if w=z34 then some .bind else if w=kPut then some .bind else if w=zbgp then some .user else if w=zbvl then some .role else none
def doKw (st:RSt) (ws:List ByteArray):Kw→Option RSt
 | .single=>(zm3 (ws.drop 1) 1).map fun l=>zo8 st (wAt ws 0) (l.getD 0 0)
 | .point=>zvp st ws
 | .grant=>z2i st ws
 | .port=>z7h st ws
 | .window=>zxq st ws
 | .engs=>zbbn st ws
 | .unit=>zbbo st ws
 | .bind=>zs6 st ws
 | .user=>z2j st ws
 | .role=>zs7 st ws
def z3t (st:RSt) (s:ByteArray):Except Int RSt :=
 if s.size=0∨(bv s).headD 0=35#8 then .ok st else
 let ws:=zc1 32 s
 match kwOf (wAt ws 0) with
 | none => .error 3
 | some k=>if hasW ws zol=true then .error 3 else match doKw st ws k with
  | none => .error 3
  | some st'=>if hasW st.once (wAt ws 0)=true then .error 6 else .ok st'
def zyv (st:RSt):Nat→List ByteArray→Except (Nat × Int) RSt
 | _,[] => .ok st
 | i,s :: l=>match z3t st s with
  | .error e => .error (i + 1,e)
  | .ok st'=>zyv st' (i + 1) l
structure Se3 where
 sy:Sy
 us:List PUs
 idle:Int
 deriving DecidableEq,Inhabited
def se0:Se3:=⟨⟨[],[],[],0,[],[],0⟩,[],0⟩
def z2k (t:ByteArray):Se3 × Int × Int :=
 if t.size > 65536 then (se0,0,2) else
 let l:=zc1 10 t
 match zyv z03 0 l.dropLast with
 | .error (n,e)=>(se0,n,e)
 | .ok st=>if l.getLastD zol≠zol then (se0,l.length,3) else
  if zvo st.sy st.us st.idle≠0 then (se0,0,zvo st.sy st.us st.idle) else (⟨st.sy,st.us,st.idle⟩,0,0)
end Go.AM.Cap

/- conf: words as numbers, kinds, levels -/
set_option maxHeartbeats 8000000
namespace Go.AM.Cap
open Go.AM Go.Proofs
def zpr (args:List V):M V:=fun H=>match args with
 | [.string s,.string t]=>match H.cell 2 0,bv t with
  | some (.int .i64 _),[c]=>if s.size < 4294967281 then some (slc H.next 0 1 (zc1 c s).length (zc1 c s).length,H.push (some (.cells true (zbj (zc1 c s))))) else none
  | _,_=>none
 | _=>none
def zc3 (args:List V):M V:=fun H=>match args with
 | [.string s]=>if s.size≤18∧s.size≠0∧(bv s).all z3s=true then some (.tuple #[i64 (decL 0 (bv s)),.nilIface],H) else none
 | _=>none
def idxB (c:BitVec 8):List (BitVec 8)→Int
 | []=>-1
 | b :: l=>if b=c then 0 else if idxB c l = -1 then -1 else idxB c l + 1
def zx4 (args:List V):M V:=fun H=>match args with
 | [.string s,.int .u8 n]=>if s.size≤1000000000 then some (i64 (idxB (BitVec.ofNat 8 n.toNat) (bv s)),H) else none
 | _=>none
def ML (H:Heap):Prop:=∃ m,H.cell 2 0=some (.int .i64 m)
theorem ML.keep0 {H H':Heap} (h:ML H) (hk:Keeps [] H H'):ML H':=by
 obtain⟨m,h⟩:=h
 refine⟨m,?_⟩
 unfold Heap.cell at h ⊢
 cases hg:H.get 2 with
 | none=>rw[hg] at h;cases h
 | some x=>rw[hk.get hg (by simp)];rw[hg] at h;exact h
theorem zbr9 {H0 H:Heap} {L:List Thing} (hm:ML H) (h:Hp H0 H L) (s t:ByteArray) (c:BitVec 8) (ht:bv t=[c]) (hs:s.size≤1000000) (Q:V→Heap→Prop)
  (hQ:∀ w H',Keeps [] H H'→Hp H0 H' (own w (zc1 c s) :: L)→Q w H'):wp (zpr [.string s,.string t]) Q H:=by
 obtain⟨m,hm⟩:=hm
 refine⟨_,_,?_,hQ _ _ (Keeps.push _ _ _) (h.newo (α:=ByteArray) (n:=1) (zc1 c s) rfl rfl)⟩
 simp only[zpr,hm,ht]
 rw[if_pos (by omega)]
theorem zbvn {H:Heap} (s:ByteArray) (h1:s.size≤18) (h2:s.size≠0) (h3:(bv s).all z3s=true) (Q:V→Heap→Prop) (hQ:Q (.tuple #[i64 (decL 0 (bv s)),.nilIface]) H):wp (zc3 [.string s]) Q H:=by
 refine⟨_,_,?_,hQ⟩
 simp only[zc3]
 rw[if_pos ⟨h1,h2,h3⟩]
theorem zbz8 {H:Heap} (s:ByteArray) (c:BitVec 8) (hs:s.size≤1000000000) (Q:V→Heap→Prop) (hQ:Q (i64 (idxB c (bv s))) H):wp (zx4 [.string s,B c]) Q H:=by
 refine⟨_,_,?_,hQ⟩
 simp only[zx4]
 rw[if_pos hs]
 have:BitVec.ofNat 8 (c.toNat:Int).toNat=c:=by simp
 rw[this]
theorem zbd6 {α:Type} [Flat α] {n:Nat} (hs:Flat.size α=n) {H:Heap} {v:V} {l:List α} (h:Sl H v l) {k:Nat} (hk:k≤l.length):∃ w,zh6 n v (some (i64 (k:Int))) none=some w∧Sl H w (l.drop k)∧∀ b∈vb w,b∈vb v:=by
 subst hs
 rcases h with⟨rfl,rfl⟩ | ⟨b,o,u,c,rfl,hc,hb,hl2,hu2⟩
 ·have hk0:k=0:=by simpa using hk
  subst hk0
  exact⟨.slice none 0 0,rfl,Sl.nil H,by simp⟩
 ·have e1:zd1 l.length c none=some l.length:=rfl
  have hb0:zd1 0 l.length (some (i64 (k:Int)))=some k:=by simp[zd1];omega
  have hu3:u=Flat.size α∨u=0:=hu2.symm
  have hdl:(l.drop k).length=l.length - k:=by rw[List.length_drop]
  by_cases hck:c=k
  ·have hw:zh6 (Flat.size α) (slc b o u l.length c) (some (i64 (k:Int))) none=some (slc b o u (l.length - k) (c - k)):=by
    simp only[zh6,e1,hb0]
    rw[if_pos hu3]
    simp[zts,hck]
   have hnil:l.drop k=[]:=List.drop_of_length_le (by omega)
   refine⟨_,hw,.inr ⟨b,o,u,c - k,by rw[hdl],by omega,hb,.inl hnil,hu2⟩,by simp⟩
  ·have hw:zh6 (Flat.size α) (slc b o u l.length c) (some (i64 (k:Int))) none=some (slc b (o + k * Flat.size α) u (l.length - k) (c - k)):=by
    simp only[zh6,e1,hb0]
    rw[if_pos hu3]
    simp[zts,hck]
   refine⟨_,hw,.inr ⟨b,o + k * Flat.size α,u,c - k,by rw[hdl],by omega,hb,?_,hu2⟩,by simp⟩
   rcases hl2 with rfl | ⟨rw_,cs,hg,q1,q2⟩
   ·left;simp
   ·refine .inr ⟨rw_,cs,hg,?_,?_⟩
    ·rw[hdl]
     have:(l.length - k) * Flat.size α + k * Flat.size α=l.length * Flat.size α:=by rw[← Nat.add_mul];congr 1;omega
     omega
    ·rw[hdl]
     have e2:l.length * Flat.size α - k * Flat.size α=(l.length - k) * Flat.size α:=by rw[Nat.sub_mul]
     have:(cs.drop (o + k * Flat.size α)).take ((l.length - k) * Flat.size α)=((cs.drop o).take (l.length * Flat.size α)).drop (k * Flat.size α):=by
      rw[List.drop_take,List.drop_drop,e2]
     rw[this,q2,zbez]
theorem z77 {H:Heap} {v:V} {l:List ByteArray} (h:Sl H v l) {i:Nat} (hi:i < l.length):zr 1 v (i64 (i:Int))=some (ptr (slB v) (slO v + i))∧zes (H.get (slB v)) (slO v + i)=some (.string (wAt l i)):=by
 have a1:=h.addr1 rfl (k := .i64) (i:=i) (by omega) (by omega)
 rw[Int.toNat_natCast] at a1
 have c1:=h.cell1 rfl hi zol
 rw[zbd] at c1
 exact⟨a1,c1⟩
theorem wd {H:Heap} {v:V} {l:List ByteArray} (h:Sl H v l) {i:Nat} {n:Int} (hi:i < l.length) (hn:n=(i:Int)):zr 1 v (.int .i64 n)=some (ptr (slB v) (slO v + i))∧zes (H.get (slB v)) (slO v + i)=some (.string (wAt l i)):=by
 subst hn;exact z77 h hi
theorem wd0 {H:Heap} {v:V} {l:List ByteArray} (h:Sl H v l) (hi:0 < l.length):zr 1 v (.int .i64 0)=some (ptr (slB v) (slO v))∧zes (H.get (slB v)) (slO v)=some (.string (wAt l 0)):=z77 h hi
theorem z78 {H:Heap} {v:V} {l:List ByteArray} (h:Sl H v l) (hl:l.length≤1000000000) (s:ByteArray) (Q:V→Heap→Prop) (hQ:Q (i64 (zkt (zhf (fun x=>decide (s=x)) l))) H):wp (zbg [v,.string s]) Q H:=by
 show wp (zfm v (.string s)) Q H
 have hlen:=h.len
 (try simp (maxSteps:=999999) (disch:=try exact ZD) only[ZB,zfm,hlen])
 refine zbo l.length (by omega) (fun j vs H'=>vs=[v,.string s,i64 l.length,i64 j]∧H'=H∧(∀ i,i < j→decide (s=l.getD i zol)=false)) ⟨rfl,rfl,by omega⟩ ?_
 rintro j vs H2 hj ⟨rfl,rfl,hn⟩
 by_cases hlt:j < l.length
 case neg =>
  have:j=l.length:=by omega
  subst this
  have e:zkt (zhf (fun x=>decide (s=x)) l) = -1:=by rw[zbd1 (d:=zol) hn];rfl
  rw[e] at hQ
  (try simp (maxSteps:=999999) (disch:=try exact ZD) only[ZB,zdg,ziz])
  exact hQ
 obtain⟨a1,c1⟩:=z77 h hlt
 by_cases hq:s=wAt l j
 ·have e:zkt (zhf (fun x=>decide (s=x)) l)=j:=by rw[zvt (d:=zol) hlt (decide_eq_true hq) hn];rfl
  rw[e] at hQ
  have e2:decide (s=wAt l j)=true:=decide_eq_true hq
  (try simp (maxSteps:=999999) (disch:=try exact ZD) only[ZB,zdg,zfc,a1,c1,e2])
  exact hQ
 ·have e2:decide (s=wAt l j)=false:=decide_eq_false hq
  (try simp (maxSteps:=999999) (disch:=try exact ZD) only[ZB,zdg,zfc,a1,c1,e2,ziy])
  refine⟨hlt,rfl,fun i hi=>?_⟩
  rcases Nat.lt_or_eq_of_le (Nat.lt_succ_iff.1 hi) with q | rfl
  ·exact hn i q
  ·exact e2
theorem zbd7 {H:Heap} {v:V} {l:List ByteArray} (h:Sl H v l) (hl:l.length≤1000000000) (s:ByteArray) (Q:V→Heap→Prop) (hQ:Q (.bool (hasW l s)) H):wp (zbr [v,.string s]) Q H:=by
 show wp (zeo v (.string s)) Q H
 unfold zeo
 rw[z7,z7]
 refine z78 h hl s _ ?_
 unfold hasW at hQ
 rw[zbvg] at hQ
 cases hf:zhf (fun x=>decide (s=x)) l with
 | none =>
  rw[hf] at hQ
  have e:decide (((-1:Int))≥0)=false:=by decide
  (try simp (maxSteps:=999999) (disch:=try exact ZD) only[ZB,zkt,e])
  exact hQ
 | some i =>
  rw[hf] at hQ
  have e:decide ((i:Int)≥0)=true:=by simp
  (try simp (maxSteps:=999999) (disch:=try exact ZD) only[ZB,zkt,e])
  exact hQ
theorem zbvo:∀ b:BitVec 8,inS (bv zuj) b=z3s b:=by decide +kernel
theorem zbxu:∀ b∈bv zuj,b.toNat < 128:=by decide +kernel
theorem zbj1 (l:List (BitVec 8)):sv l=zol↔l=[]:=⟨fun h=>zb5h (h.trans (show zol=sv [] from rfl)),fun h=>by rw[h];rfl⟩
theorem zbsa (w:ByteArray):(sv (zt6 (bv zuj) (zr3 (bv zuj) (bv w)))=zol)↔(bv w).all z3s=true:=by
 rw[zbj1,zbjr,List.all_eq_true]
 constructor
 ·intro h b hb;rw[← zbvo];exact h b hb
 ·intro h b hb;rw[zbvo];exact h b hb
theorem zbgt {s:ByteArray} (h:s.size=0):s=zol:=by
 have:=zci s
 rw[h] at this
 exact zbnq (by rw[List.eq_nil_of_length_eq_zero this];rfl)
theorem zbfq {H:Heap} {G:List V→M V} (w:ByteArray) (hw:w.size≤1000000) (Q:V→Heap→Prop) (hQ:∀ H',Keeps [] H H'→Q (.tuple #[i64 (zz3 w).1,.bool (zz3 w).2]) H'):wp (zg7 G zc3 [.string w]) Q H:=by
 show wp (zos G zc3 (.string w)) Q H
 unfold zz3 at hQ
 by_cases c1:w.size=0
 ·have q:=hQ H (Keeps.refl _ _)
  rw[if_pos (.inl c1)] at q
  have e:decide (w=(⟨#[]⟩:ByteArray))=true:=decide_eq_true (zbgt c1)
  (try simp (maxSteps:=999999) (disch:=try exact ZD) only[ZB,zos,e])
  exact q
 have e1:decide (w=(⟨#[]⟩:ByteArray))=false:=decide_eq_false fun h=>c1 (by rw[h];rfl)
 by_cases c2:w.size > 10
 ·have q:=hQ H (Keeps.refl _ _)
  rw[if_pos (.inr (.inl c2))] at q
  have e:decide ((w.size:Int) > 10)=true:=decide_eq_true (by omega)
  (try simp (maxSteps:=999999) (disch:=try exact ZD) only[ZB,zos,e1,e])
  exact q
 have e2:decide ((w.size:Int) > 10)=false:=decide_eq_false (by omega)
 (try simp (maxSteps:=999999) (disch:=try exact ZD) only[ZB,zos,e1,e2])
 refine zboq w zuj (by omega) zbxu (by decide) (by decide) _ fun H1 k1=>?_
 have q:=hQ H1 k1
 cases c3:(bv w).all z3s with
 | false =>
  rw[if_pos (.inr (.inr (.inl c3)))] at q
  have e:decide (sv (zt6 (bv zuj) (zr3 (bv zuj) (bv w)))≠(⟨#[]⟩:ByteArray))=true:=decide_eq_true fun h=>by
   have:=(zbsa w).1 h
   rw[c3] at this;cases this
  (try simp (maxSteps:=999999) (disch:=try exact ZD) only[ZB,e])
  exact q
 | true =>
  have e3:decide (sv (zt6 (bv zuj) (zr3 (bv zuj) (bv w)))≠(⟨#[]⟩:ByteArray))=false:=decide_eq_false fun h=>h ((zbsa w).2 c3)
  have ix:=ztb (s:=w) (k := .i64) (i:=0) (by omega) (by omega)
  have hhd:(bv w).getD (0:Int).toNat 0=(bv w).headD 0:=by cases bv w <;> rfl
  rw[hhd] at ix
  have e48:(Value.int .u8 48:V)=B 48#8:=rfl
  have eqB:∀ a b:BitVec 8,zu .eql (B a) (B b)=some (.bool (decide (a=b))):=fun a b=>by
   have:(((a.toNat:Int) == (b.toNat:Int)))=decide (a=b):=by
    by_cases h:a=b
    ·subst h;simp
    ·rw[decide_eq_false h]
     have:¬ a.toNat=b.toNat:=fun q=>h (BitVec.eq_of_toNat_eq q)
     simp;omega
   show some (Value.bool ((a.toNat:Int) == (b.toNat:Int)))=_
   rw[this]
  by_cases c4:w.size > 1∧(bv w).headD 0=48#8
  ·rw[if_pos (.inr (.inr (.inr c4)))] at q
   have e4:decide ((w.size:Int) > 1)=true:=decide_eq_true (by omega)
   have e5:decide ((bv w).headD 0=48#8)=true:=decide_eq_true c4.2
   (try simp (maxSteps:=999999) (disch:=try exact ZD) only[ZB,e3,e4,ix,e48,eqB,e5])
   exact q
  ·rw[if_neg (by rintro (r | r | r | r);exact c1 r;exact c2 r;rw[c3] at r;cases r;exact c4 r)] at q
   have enil:zer false (zef .i .nilIface)=some (.bool true):=rfl
   by_cases c5:w.size > 1
   ·have e4:decide ((w.size:Int) > 1)=true:=decide_eq_true (by omega)
    have e5:decide ((bv w).headD 0=48#8)=false:=decide_eq_false fun h=>c4 ⟨c5,h⟩
    (try simp (maxSteps:=999999) (disch:=try exact ZD) only[ZB,e3,e4,ix,e48,eqB,e5,zwh])
    refine zbvn w (by omega) c1 c3 _ ?_
    have e6:decide ((decL 0 (bv w):Int)≤1000000000)=decide (decL 0 (bv w)≤1000000000):=decide_eq_decide.2 (by omega)
    (try simp (maxSteps:=999999) (disch:=try exact ZD) only[ZB,enil,e6])
    exact q
   ·have e4:decide ((w.size:Int) > 1)=false:=decide_eq_false (by omega)
    (try simp (maxSteps:=999999) (disch:=try exact ZD) only[ZB,e3,e4,zwh])
    refine zbvn w (by omega) c1 c3 _ ?_
    have e6:decide ((decL 0 (bv w):Int)≤1000000000)=decide (decL 0 (bv w)≤1000000000):=decide_eq_decide.2 (by omega)
    (try simp (maxSteps:=999999) (disch:=try exact ZD) only[ZB,enil,e6])
    exact q
end Go.AM.Cap
