import Derived.Test.YtjchglndancedaaGreatDoorCfBu
import Derived.Test.YtjchglndancedaaGreatDoorJConf
set_option linter.all false
/- conf: plain: what is shown is read as just this -/
set_option maxHeartbeats 4000000
namespace Go.AM.Cap
open Go.AM Go.Proofs
theorem zbnk (n:Nat):zwb n []=n:=by conv=>lhs;unfold zwb
theorem zbby (n:Nat) (b:BitVec 8) (l:List (BitVec 8)):zwb n (b :: l)=zwb (n * 10 + (b.toNat - 48)) l:=by conv=>lhs;unfold zwb
theorem zbtv:∀ (l:List (BitVec 8)) (n:Nat) (b:BitVec 8),zwb n (l ++ [b])=zwb n l * 10 + (b.toNat - 48)
 | [],n,b=>by rw[List.nil_append,zbby,zbnk,zbnk]
 | c :: l,n,b=>by rw[List.cons_append,zbby,zbby,zbtv l]
def dg (u:Nat):List (BitVec 8):=(Lib.decDigits u).map UInt8.toBitVec
theorem zy4 {u:Nat} (h:u < 10):dg u=[BitVec.ofNat 8 (48 + u)]:=by
 unfold dg
 rw[Lib.decDigits,dif_pos h]
 rfl
theorem zbiu {u:Nat} (h:¬ u < 10):dg u=dg (u / 10) ++ [BitVec.ofNat 8 (48 + u % 10)]:=by
 unfold dg
 rw[Lib.decDigits,dif_neg h,List.map_append]
 rfl
theorem z3k {k:Nat} (h:k < 10):(BitVec.ofNat 8 (48 + k)).toNat=48 + k:=by
 rw[BitVec.toNat_ofNat];omega
theorem zbzf (u:Nat):zwb 0 (dg u)=u:=by
 induction u using Nat.strongRecOn with
 | ind u ih =>
  by_cases h:u < 10
  ·rw[zy4 h,zbby,zbnk,z3k h];omega
  ·rw[zbiu h,zbtv,ih (u / 10) (by omega),z3k (by omega)];omega
theorem zbnl (u:Nat):dg u≠[]:=by
 by_cases h:u < 10
 ·rw[zy4 h];simp
 ·rw[zbiu h];simp
theorem zbwn (u:Nat) (h1:1≤u):(dg u).headD 0≠48#8:=by
 induction u using Nat.strongRecOn with
 | ind u ih =>
  by_cases h:u < 10
  ·rw[zy4 h]
   show BitVec.ofNat 8 (48 + u)≠48#8
   intro e
   have:=congrArg BitVec.toNat e
   rw[z3k h] at this
   have h48:(48#8:BitVec 8).toNat=48:=rfl
   omega
  ·have:=ih (u / 10) (by omega) (by omega)
   rw[zbiu h]
   cases hd:dg (u / 10) with
   | nil=>exact absurd hd (zbnl _)
   | cons a l=>rw[hd] at this;exact this
theorem zbtw:∀ (k u:Nat),u < 10 ^ (k + 1)→(dg u).length≤k + 1
 | 0,u,h=>by rw[zy4 (by omega)];simp
 | k + 1,u,h=>by
  by_cases h0:u < 10
  ·rw[zy4 h0];simp
  ·rw[zbiu h0,List.length_append]
   have:u / 10 < 10 ^ (k + 1):=by
    rw[Nat.div_lt_iff_lt_mul (by omega)]
    rw[Nat.pow_succ] at h
    exact h
   have:=zbtw k (u / 10) this
   simp;omega
theorem zblb (u:Nat):∀ b∈dg u,48≤b.toNat∧b.toNat≤57:=fun b hb=>by
 unfold dg at hb
 obtain⟨c,hc,rfl⟩:=List.mem_map.1 hb
 exact zbqm u c hc
def zba:Wd→ByteArray
 | .n i=>⟨(Lib.itoa i).toArray⟩
 | .s x=>x
theorem zblc (d:Wd):bv (zba d)=(zbek d).map UInt8.toBitVec:=by
 cases d with
 | n i=>exact zbxf _
 | s x=>rfl
theorem zbtx {i:Int} (h:0≤i):bv (zba (.n i))=dg i.toNat:=by
 rw[zblc]
 show (Lib.itoa i).map UInt8.toBitVec=_
 unfold Lib.itoa
 rw[if_neg (by omega)]
 rfl
def zj5 (i:Int):Prop:=0≤i∧i≤1000000000
theorem z9c {i:Int} (h:zj5 i):zss (zba (.n i))=(i,true):=by
 have hb:=zbtx h.1
 have hl:(zba (.n i)).size=(dg i.toNat).length:=by rw[← zcy,hb]
 have hp:=zbnl i.toNat
 have h10:(dg i.toNat).length≤10:=zbtw 9 _ (by have:=h.2;omega)
 have hne:(dg i.toNat).length≠0:=by simpa using hp
 have hd:(dg i.toNat).all zwu=true:=List.all_eq_true.2 fun b hb=>by
  have:=zblb _ b hb
  unfold zwu
  exact decide_eq_true this
 have hz:¬ ((dg i.toNat).length > 1∧(dg i.toNat).headD 0=48#8):=fun q=>by
  by_cases h0:i.toNat < 10
  ·have:=q.1
   rw[zy4 h0] at this
   simp at this
  ·exact zbwn i.toNat (by omega) q.2
 unfold zss
 rw[hl,hb,zbzf]
 rw[if_neg (by
  rintro (q | q | q | q)
  ·exact hne q
  ·omega
  ·rw[hd] at q;cases q
  ·exact hz q)]
 have:=h.2
 have e:((i.toNat:Nat):Int)=i:=Int.toNat_of_nonneg h.1
 rw[decide_eq_true (show i.toNat≤1000000000 by omega)]
 exact Prod.ext e rfl
theorem zbgt:∀ n:Nat,n < 16→hexD (hexd n)=some n:=by decide
theorem zbld:∀ l:List (BitVec 8),zjp (z7w l)=some l
 | []=>rfl
 | b :: l=>by
  have hb:=b_lt b
  have e:z7w (b :: l)=hexd (b.toNat / 16) :: hexd (b.toNat % 16) :: z7w l:=by simp[z7w]
  rw[e]
  conv=>lhs;unfold zjp
  rw[zbgt _ (by omega),zbgt _ (by omega),zbld l]
  simp only
  congr 2
  apply BitVec.eq_of_toNat_eq
  rw[BitVec.toNat_ofNat]
  omega
def jn:List ByteArray→List (BitVec 8)
 | []=>[]
 | [w]=>bv w
 | w :: v :: ws=>bv w ++ 32#8 :: jn (v :: ws)
def zl1 (w:ByteArray):Prop:=bv w≠[]∧∀ b∈bv w,b≠32#8∧b≠10#8
theorem zble {α:Type} [DecidableEq α] (c:α):∀ l:List α,(∀ b∈l,b≠c)→zdr c l=[l]
 | [],_=>rfl
 | b :: l,h=>by
  rw[zdr,if_neg (h b (by simp)),zble c l (fun x hx=>h x (by simp[hx]))]
  rfl
theorem zblf:∀ {ws:List ByteArray},ws≠[]→(∀ w∈ws,zl1 w)→zdr 32#8 (jn ws)=ws.map bv
 | [],h,_=>absurd rfl h
 | [w],_,h=>by rw[jn,zble _ _ (fun b hb=>((h w (by simp)).2 b hb).1)];rfl
 | w :: v :: ws,_,h=>by
  rw[jn,z3h (fun b hb=>((h w (by simp)).2 b hb).1),zblf (ws:=v :: ws) (by simp) (fun x hx=>h x (by simp[List.mem_cons.1 hx]))]
  rfl
theorem zbty:∀ {ws:List ByteArray},(∀ w∈ws,zl1 w)→∀ b∈jn ws,b≠10#8
 | [],_,b,hb=>by cases hb
 | [w],h,b,hb=>((h w (by simp)).2 b hb).2
 | w :: v :: ws,h,b,hb=>by
  rw[jn] at hb
  rcases List.mem_append.1 hb with hb | hb
  ·exact ((h w (by simp)).2 b hb).2
  ·rcases List.mem_cons.1 hb with rfl | hb
   ·decide
   ·exact zbty (ws:=v :: ws) (fun x hx=>h x (by simp[List.mem_cons.1 hx])) b hb
theorem zbwo {w:ByteArray} {ws:List ByteArray} (h:zl1 w):jn (w :: ws)≠[]∧(jn (w :: ws)).headD 0=(bv w).headD 0:=by
 have h1:=h.1
 cases hb:bv w with
 | nil=>exact absurd hb h1
 | cons a l =>
  cases ws with
  | nil=>rw[jn,hb];exact⟨by simp,rfl⟩
  | cons v ws=>rw[jn,hb];exact⟨by simp,rfl⟩
theorem zbwp {w:ByteArray} (h:zl1 w):w≠zh4:=fun e=>by subst e;exact h.1 rfl
theorem zbnm {st st':RSt} {k:ByteArray} {ws:List ByteArray} {kw:Kw} (hk:zl1 k) (hws:∀ w∈ws,zl1 w) (h35:(bv k).headD 0≠35#8) (hkw:kwOf k=some kw) (hdo:z3d st (k :: ws) kw=some st') (honce:zvv st.once k=false) :
  zsf st (sv (jn (k :: ws))) = .ok st':=by
 obtain⟨h1,h2⟩:=zbwo (ws:=ws) hk
 have hall:∀ w∈k :: ws,zl1 w:=fun w hw=>by
  rcases List.mem_cons.1 hw with rfl | hw
  ·exact hk
  ·exact hws w hw
 have hsp:zbv 32 (sv (jn (k :: ws)))=k :: ws:=by
  unfold zbv
  rw[zrt]
  have:=zblf (ws:=k :: ws) (by simp) hall
  rw[show (32:BitVec 8)=32#8 from rfl,this,List.map_map]
  conv=>rhs;rw[← List.map_id (k :: ws)]
  exact List.map_congr_left fun w _=>zbaq w
 have hc:¬ ((sv (jn (k :: ws))).size=0∨(bv (sv (jn (k :: ws)))).headD 0=35#8):=by
  rw[z3y,zrt,h2]
  rintro (q | q)
  ·exact h1 (List.eq_nil_of_length_eq_zero q)
  ·exact h35 q
 have hno:zvv (k :: ws) zh4=false:=by
  unfold zvv
  rw[List.any_eq_false]
  intro w hw
  simp only[decide_eq_true_eq]
  exact fun e=>zbwp (hall w hw) e.symm
 rw[zsf,if_neg hc]
 simp only[hsp]
 rw[show wAt (k :: ws) 0=k from rfl,hkw]
 simp only[hno,Bool.false_eq_true,if_false,hdo]
 rw[honce]
 rfl
def Rd (st:RSt) (ls:List ByteArray) (st':RSt):Prop:=(∀ rest i,∃ i',zon st i (ls ++ rest)=zon st' i' rest)∧∀ l∈ls,noNl l
theorem Rd.nil (st:RSt):Rd st [] st:=⟨fun _ i=>⟨i,rfl⟩,fun l hl=>by cases hl⟩
theorem Rd.one {st st':RSt} {l:ByteArray} (h:zsf st l = .ok st') (hn:noNl l):Rd st [l] st':=⟨fun rest i=>⟨i + 1,by rw[List.cons_append,List.nil_append,zon,h]⟩,fun m hm=>by
 simp only[List.mem_cons,List.not_mem_nil,or_false] at hm
 subst hm;exact hn⟩
theorem Rd.app {a b c:RSt} {l m:List ByteArray} (h:Rd a l b) (g:Rd b m c):Rd a (l ++ m) c:=⟨fun rest i=>by
 obtain⟨j,hj⟩:=h.1 (m ++ rest) i
 obtain⟨k,hk⟩:=g.1 rest j
 exact⟨k,by rw[List.append_assoc,hj,hk]⟩,fun x hx=>by
 rcases List.mem_append.1 hx with q | q
 ·exact h.2 x q
 ·exact g.2 x q⟩
theorem Rd.list {α:Type} {f:α→List ByteArray} {g:RSt→α→RSt} {Inv:RSt→Prop}:∀ {l:List α} {st:RSt},Inv st→(∀ st x,x∈l→Inv st→Rd st (f x) (g st x)∧Inv (g st x))→Rd st (l.flatMap f) (l.foldl g st)∧Inv (l.foldl g st)
 | [],st,h0,_=>⟨Rd.nil st,h0⟩
 | x :: l,st,h0,h=>by
  obtain⟨h1,h2⟩:=h st x (by simp) h0
  obtain⟨h3,h4⟩:=Rd.list (l:=l) h2 (fun st y hy=>h st y (by simp[hy]))
  rw[List.flatMap_cons]
  exact⟨h1.app h3,h4⟩
theorem Rd.done {st:RSt} {ls:List ByteArray} (h:Rd zra ls st):zon zra 0 ls = .ok st:=by
 obtain⟨i,hi⟩:=h.1 [] 0
 rw[List.append_nil] at hi
 rw[hi,zon]
def O3:List ByteArray:=[zdv,zgd,zno]
def ln (k:ByteArray) (ds:List Wd):ByteArray:=sv (jn (k :: ds.map zba))
theorem zi4 {k:ByteArray} (h:decide (bv k≠[]) && (bv k).all (fun b=>decide (b≠32#8∧b≠10#8))=true):zl1 k:=by
 simp only[Bool.and_eq_true,decide_eq_true_eq,List.all_eq_true] at h
 exact h
theorem zhi {i:Int} (h:0≤i):zl1 (zba (.n i)):=by
 unfold zl1
 rw[zbtx h]
 refine⟨zbnl _,fun b hb=>?_⟩
 have:=zblb _ b hb
 constructor <;> (intro e;subst e;revert this;decide)
theorem zbah {t:Int} (h0:1≤t) (h1:t≤3):zl1 (zeq t):=by
 obtain rfl | rfl | rfl:t=1∨t=2∨t=3:=by omega
 all_goals exact zi4 (by decide)
theorem zbtz {t:Int} (h0:1≤t) (h1:t≤4):zl1 (levW t):=by
 obtain rfl | rfl | rfl | rfl:t=1∨t=2∨t=3∨t=4:=by omega
 all_goals exact zi4 (by decide)
theorem zbgu {t:Int} (h0:1≤t) (h1:t≤3):zf4 (zeq t)=t:=by
 obtain rfl | rfl | rfl:t=1∨t=2∨t=3:=by omega
 all_goals decide
theorem zbt0 {t:Int} (h0:1≤t) (h1:t≤4):zgx (levW t)=t:=by
 obtain rfl | rfl | rfl | rfl:t=1∨t=2∨t=3∨t=4:=by omega
 all_goals decide
theorem zt9 {is:List Int} (h:∀ i∈is,zj5 i):zf9 (is.map fun i=>zba (.n i)) is.length=some is:=by
 unfold zf9
 have h1:(is.map fun i=>zba (.n i)).all (fun w=>(zss w).2)=true:=List.all_eq_true.2 fun w hw=>by
  obtain⟨i,hi,rfl⟩:=List.mem_map.1 hw
  rw[z9c (h i hi)]
 rw[if_pos ⟨h1,by simp⟩,List.map_map]
 congr 1
 conv=>rhs;rw[← List.map_id is]
 exact List.map_congr_left fun i hi=>by
  show (zss (zba (.n i))).1=i
  rw[z9c (h i hi)]
def zfj (st:RSt) (s:Sy):RSt:={ st with sy:=s }
theorem zir {st st':RSt} {k:ByteArray} {ds:List Wd} {kw:Kw} (hk:zl1 k) (hds:∀ d∈ds,zl1 (zba d)) (h35:(bv k).headD 0≠35#8) (hkw:kwOf k=some kw) (hdo:z3d st (k :: ds.map zba) kw=some st') (honce:zvv st.once k=false):Rd st [ln k ds] st':=by
 have hws:∀ w∈ds.map zba,zl1 w:=fun w hw=>by
  obtain⟨d,hd,rfl⟩:=List.mem_map.1 hw
  exact hds d hd
 refine Rd.one (zbnm hk hws h35 hkw hdo honce) fun b hb=>?_
 unfold ln at hb
 rw[zrt] at hb
 exact zbty (fun w hw=>by
  rcases List.mem_cons.1 hw with rfl | hw
  ·exact hk
  ·exact hws w hw) b hb
def ptLn (p:Pt):ByteArray:=ln (if p.out then z04 else kIn) [.s (zeq p.typ)]
theorem zb0r {st:RSt} (ho:st.once=O3) {p:Pt} (h:1≤p.typ∧p.typ≤3):Rd st [ptLn p] (addP st p):=by
 obtain⟨ty,out⟩:=p
 have hg:∀ d∈[Wd.s (zeq ty)],zl1 (zba d):=fun d hd=>by
  simp only[List.mem_cons,List.not_mem_nil,or_false] at hd
  subst hd;exact zbah h.1 h.2
 have hkb:=zbgu h.1 h.2
 have h0:=h.1
 cases out with
 | true =>
  show Rd st [ln z04 [.s (zeq ty)]] _
  refine zir (kw := .point) (zi4 (by decide)) hg (by decide) (by decide) ?_ (by rw[ho];decide)
  show zmk st [z04,zeq ty]=_
  unfold zmk
  rw[show wAt [z04,zeq ty] 1=zeq ty from rfl,show wAt [z04,zeq ty] 0=z04 from rfl]
  simp only at hkb h0
  rw[hkb,if_pos ⟨rfl,by omega⟩]
  rfl
 | false =>
  show Rd st [ln kIn [.s (zeq ty)]] _
  refine zir (kw := .point) (zi4 (by decide)) hg (by decide) (by decide) ?_ (by rw[ho];decide)
  show zmk st [kIn,zeq ty]=_
  unfold zmk
  rw[show wAt [kIn,zeq ty] 1=zeq ty from rfl,show wAt [kIn,zeq ty] 0=kIn from rfl]
  simp only at hkb h0
  rw[hkb,if_pos ⟨rfl,by omega⟩]
  rfl
def grLn (g:Gr):ByteArray:=ln (if g.write then zm5 else zbbb) [.n g.part,.n g.point]
theorem zb0s {st:RSt} (ho:st.once=O3) {g:Gr} (h:zj5 g.part∧zj5 g.point):Rd st [grLn g] (addG st g):=by
 obtain⟨pa,po,wr⟩:=g
 have hg:∀ d∈[Wd.n pa,Wd.n po],zl1 (zba d):=fun d hd=>by
  simp only[List.mem_cons,List.not_mem_nil,or_false] at hd
  rcases hd with rfl | rfl
  ·exact zhi h.1.1
  ·exact zhi h.2.1
 have hn:=zt9 (is:=[pa,po]) (fun i hi=>by
  simp only[List.mem_cons,List.not_mem_nil,or_false] at hi
  rcases hi with rfl | rfl
  ·exact h.1
  ·exact h.2)
 have hn':zf9 [zba (.n pa),zba (.n po)] 2=some [pa,po]:=hn
 cases wr with
 | true =>
  show Rd st [ln zm5 [.n pa,.n po]] _
  refine zir (kw := .grant) (zi4 (by decide)) hg (by decide) (by decide) ?_ (by rw[ho];decide)
  show zqb st [zm5,zba (.n pa),zba (.n po)]=_
  unfold zqb
  rw[show List.drop 1 [zm5,zba (.n pa),zba (.n po)]=[zba (.n pa),zba (.n po)] from rfl,hn']
  rfl
 | false =>
  show Rd st [ln zbbb [.n pa,.n po]] _
  refine zir (kw := .grant) (zi4 (by decide)) hg (by decide) (by decide) ?_ (by rw[ho];decide)
  show zqb st [zbbb,zba (.n pa),zba (.n po)]=_
  unfold zqb
  rw[show List.drop 1 [zbbb,zba (.n pa),zba (.n po)]=[zba (.n pa),zba (.n po)] from rfl,hn']
  rfl
def prLn (q:Port):ByteArray:=if q.kind=1 then ln zqa [.n q.src,.n q.dst,.s (zeq q.typ)] else ln zkj [.n q.src,.n q.dst,.s (zeq q.typ),.n q.cap]
theorem zb0t {st:RSt} (ho:st.once=O3) {q:Port} (hk:q.kind=1∨q.kind=2) (h1:zj5 q.src) (h2:zj5 q.dst) (h3:1≤q.typ∧q.typ≤3) (h4:zj5 q.cap) (h5:q.kind=1→q.cap=0):Rd st [prLn q] (addQ st q):=by
 obtain⟨ki,sr,ds,ty,ca⟩:=q
 simp only at hk h1 h2 h3 h4 h5
 have hkb:=zbgu h3.1 h3.2
 have h0:=h3.1
 by_cases c:ki=1
 ·subst c
  have hca:=h5 rfl
  subst hca
  unfold prLn
  rw[if_pos rfl]
  have hn:zf9 [zba (.n sr),zba (.n ds)] 2=some [sr,ds]:=zt9 (is:=[sr,ds]) (fun i hi=>by
   simp only[List.mem_cons,List.not_mem_nil,or_false] at hi
   rcases hi with rfl | rfl
   ·exact h1
   ·exact h2)
  refine zir (kw := .port) (zi4 (by decide)) (fun d hd=>by
   simp only[List.mem_cons,List.not_mem_nil,or_false] at hd
   rcases hd with rfl | rfl | rfl
   ·exact zhi h1.1
   ·exact zhi h2.1
   ·exact zbah h3.1 h3.2) (by decide) (by decide) ?_ (by rw[ho];decide)
  show zst st [zqa,zba (.n sr),zba (.n ds),zeq ty]=_
  have hq:decide (wAt [zqa,zba (.n sr),zba (.n ds),zeq ty] 0=zkj)=false:=decide_eq_false (by show ¬ zqa=zkj;decide)
  unfold zst
  simp only[hq]
  rw[show wAt [zqa,zba (.n sr),zba (.n ds),zeq ty] 3=zeq ty from rfl,hkb]
  rw[if_pos ⟨rfl,by omega⟩]
  rw[show (List.take 2 (List.drop 1 [zqa,zba (.n sr),zba (.n ds),zeq ty]) ++ List.drop 4 [zqa,zba (.n sr),zba (.n ds),zeq ty])=[zba (.n sr),zba (.n ds)] from rfl]
  simp only[Bool.false_eq_true,if_false]
  rw[hn]
  rfl
 ·have hk2:ki=2:=by omega
  subst hk2
  unfold prLn
  rw[if_neg (show ¬ (2:Int)=1 by decide)]
  have hn:zf9 [zba (.n sr),zba (.n ds),zba (.n ca)] 3=some [sr,ds,ca]:=zt9 (is:=[sr,ds,ca]) (fun i hi=>by
   simp only[List.mem_cons,List.not_mem_nil,or_false] at hi
   rcases hi with rfl | rfl | rfl
   ·exact h1
   ·exact h2
   ·exact h4)
  refine zir (kw := .port) (zi4 (by decide)) (fun d hd=>by
   simp only[List.mem_cons,List.not_mem_nil,or_false] at hd
   rcases hd with rfl | rfl | rfl | rfl
   ·exact zhi h1.1
   ·exact zhi h2.1
   ·exact zbah h3.1 h3.2
   ·exact zhi h4.1) (by decide) (by decide) ?_ (by rw[ho];decide)
  show zst st [zkj,zba (.n sr),zba (.n ds),zeq ty,zba (.n ca)]=_
  have hq:decide (wAt [zkj,zba (.n sr),zba (.n ds),zeq ty,zba (.n ca)] 0=zkj)=true:=decide_eq_true rfl
  unfold zst
  simp only[hq]
  rw[show wAt [zkj,zba (.n sr),zba (.n ds),zeq ty,zba (.n ca)] 3=zeq ty from rfl,hkb]
  rw[if_pos ⟨rfl,by omega⟩]
  rw[show (List.take 2 (List.drop 1 [zkj,zba (.n sr),zba (.n ds),zeq ty,zba (.n ca)]) ++ List.drop 4 [zkj,zba (.n sr),zba (.n ds),zeq ty,zba (.n ca)])=[zba (.n sr),zba (.n ds),zba (.n ca)] from rfl]
  simp only[if_true]
  rw[hn]
  rfl
def wnLn (w:Win):ByteArray:=if w.part < 0 then ln zbd6 [.n w.start,.n w.len] else ln z0c [.n w.part,.n w.start,.n w.len]
theorem zb0u {st:RSt} (ho:st.once=O3) {w:Win} (h0:w.part = -1∨zj5 w.part) (h1:zj5 w.start) (h2:zj5 w.len):Rd st [wnLn w] (z83 st w):=by
 obtain⟨pa,sa,le⟩:=w
 simp only at h0 h1 h2
 unfold wnLn
 by_cases c:pa < 0
 ·have hp:pa = -1:=by
   rcases h0 with q | q
   ·exact q
   ·have:=q.1;omega
  subst hp
  rw[if_pos (show (-1:Int) < 0 by decide)]
  have hn:zf9 [zba (.n sa),zba (.n le)] 2=some [sa,le]:=zt9 (is:=[sa,le]) (fun i hi=>by
   simp only[List.mem_cons,List.not_mem_nil,or_false] at hi
   rcases hi with rfl | rfl
   ·exact h1
   ·exact h2)
  refine zir (kw := .engs) (zi4 (by decide)) (fun d hd=>by
   simp only[List.mem_cons,List.not_mem_nil,or_false] at hd
   rcases hd with rfl | rfl
   ·exact zhi h1.1
   ·exact zhi h2.1) (by decide) (by decide) ?_ (by rw[ho];decide)
  show z0d st [zbd6,zba (.n sa),zba (.n le)]=_
  unfold z0d
  rw[show List.drop 1 [zbd6,zba (.n sa),zba (.n le)]=[zba (.n sa),zba (.n le)] from rfl,hn]
  rfl
 ·rw[if_neg c]
  have hp:zj5 pa:=by
   rcases h0 with q | q
   ·omega
   ·exact q
  have hn:zf9 [zba (.n pa),zba (.n sa),zba (.n le)] 3=some [pa,sa,le]:=zt9 (is:=[pa,sa,le]) (fun i hi=>by
   simp only[List.mem_cons,List.not_mem_nil,or_false] at hi
   rcases hi with rfl | rfl | rfl
   ·exact hp
   ·exact h1
   ·exact h2)
  refine zir (kw := .window) (zi4 (by decide)) (fun d hd=>by
   simp only[List.mem_cons,List.not_mem_nil,or_false] at hd
   rcases hd with rfl | rfl | rfl
   ·exact zhi hp.1
   ·exact zhi h1.1
   ·exact zhi h2.1) (by decide) (by decide) ?_ (by rw[ho];decide)
  show zqc st [z0c,zba (.n pa),zba (.n sa),zba (.n le)]=_
  unfold zqc
  rw[show List.drop 1 [z0c,zba (.n pa),zba (.n sa),zba (.n le)]=[zba (.n pa),zba (.n sa),zba (.n le)] from rfl,hn]
  rfl
def bdLn (k:ByteArray) (b:Bd):ByteArray:=ln k [.s (if b.kind=1 then zd0 else zg2),.n b.n]
def zboq (st:RSt) (u:PUn):RSt:=zfj st { st.sy with uns:=st.sy.uns ++ [u] }
theorem zbgv (st:RSt) (us:List PUn) (u:PUn) (g:Bool) (b:Bd):addB (zfj st { st.sy with uns:=us ++ [u] }) g b=zfj st { st.sy with uns:=us ++ [if g then ⟨u.ins ++ [b],u.outs⟩ else ⟨u.ins,u.outs ++ [b]⟩] } := by
 have h1:zbgm (us ++ [u])=u:=by
  unfold zbgm
  rw[List.length_append,List.getD_eq_getElem?_getD]
  simp
 unfold addB zfj
 simp only[h1,List.length_append,List.length_cons,List.length_nil]
 rw[show us.length + (0 + 1) - 1=us.length by omega,List.set_append_right _ _ (Nat.le_refl _)]
 simp
theorem zbxg {st:RSt} (ho:st.once=O3) (us:List PUn) (u:PUn) {b:Bd} (hb:b.kind=1∨b.kind=2) (hn:zj5 b.n) :
  Rd (zfj st { st.sy with uns:=us ++ [u] }) [bdLn zq9 b] (zfj st { st.sy with uns:=us ++ [⟨u.ins ++ [b],u.outs⟩] })∧Rd (zfj st { st.sy with uns:=us ++ [u] }) [bdLn zyz b] (zfj st { st.sy with uns:=us ++ [⟨u.ins,u.outs ++ [b]⟩] }):=by
 have hw:zl1 (if b.kind=1 then zd0 else zg2):=by
  by_cases c:b.kind=1
  ·rw[if_pos c];exact zi4 (by decide)
  ·rw[if_neg c];exact zi4 (by decide)
 have hg:∀ d∈[Wd.s (if b.kind=1 then zd0 else zg2),Wd.n b.n],zl1 (zba d):=fun d hd=>by
  simp only[List.mem_cons,List.not_mem_nil,or_false] at hd
  rcases hd with rfl | rfl
  ·exact hw
  ·exact zhi hn.1
 have hbk:zep (if b.kind=1 then zd0 else zg2)=b.kind:=by
  rcases hb with q | q
  ·rw[if_pos q,q];decide
  ·rw[if_neg (by omega),q];decide
 have hne:us ++ [u]≠[]:=by simp
 have hnum:=z9c hn
 have e1:=zbgv st us u true b
 have e2:=zbgv st us u false b
 rw[if_pos rfl] at e1
 rw[if_neg (by decide)] at e2
 constructor
 ·refine zir (kw := .bind) (zi4 (by decide)) hg (by decide) (by decide) ?_ (by show zvv st.once zq9=false;rw[ho];decide)
  show zlz _ [zq9,(if b.kind=1 then zd0 else zg2),zba (.n b.n)]=_
  unfold zlz
  rw[show wAt [zq9,(if b.kind=1 then zd0 else zg2),zba (.n b.n)] 1=(if b.kind=1 then zd0 else zg2) from rfl,show wAt [zq9,(if b.kind=1 then zd0 else zg2),zba (.n b.n)] 2=zba (.n b.n) from rfl,show wAt [zq9,(if b.kind=1 then zd0 else zg2),zba (.n b.n)] 0=zq9 from rfl,hbk,hnum]
  rw[if_pos ⟨rfl,hne,by omega,rfl⟩]
  rw[← e1]
  rfl
 ·refine zir (kw := .bind) (zi4 (by decide)) hg (by decide) (by decide) ?_ (by show zvv st.once zyz=false;rw[ho];decide)
  show zlz _ [zyz,(if b.kind=1 then zd0 else zg2),zba (.n b.n)]=_
  unfold zlz
  rw[show wAt [zyz,(if b.kind=1 then zd0 else zg2),zba (.n b.n)] 1=(if b.kind=1 then zd0 else zg2) from rfl,show wAt [zyz,(if b.kind=1 then zd0 else zg2),zba (.n b.n)] 2=zba (.n b.n) from rfl,show wAt [zyz,(if b.kind=1 then zd0 else zg2),zba (.n b.n)] 0=zyz from rfl,hbk,hnum]
  rw[if_pos ⟨rfl,hne,by omega,rfl⟩]
  rw[← e2]
  rfl
theorem zbt1 {st:RSt} (ho:st.once=O3) (us:List PUn):∀ (l:List Bd) (u:PUn),(∀ b∈l,(b.kind=1∨b.kind=2)∧zj5 b.n)→Rd (zfj st { st.sy with uns:=us ++ [u] }) (l.map (bdLn zq9)) (zfj st { st.sy with uns:=us ++ [⟨u.ins ++ l,u.outs⟩] })
 | [],u,_=>by rw[List.append_nil];exact Rd.nil _
 | b :: l,u,h=>by
  have h1:=(zbxg ho us u (h b (by simp)).1 (h b (by simp)).2).1
  have h2:=zbt1 ho us l ⟨u.ins ++ [b],u.outs⟩ (fun c hc=>h c (by simp[hc]))
  rw[List.append_assoc] at h2
  exact h1.app h2
theorem zbt2 {st:RSt} (ho:st.once=O3) (us:List PUn):∀ (l:List Bd) (u:PUn),(∀ b∈l,(b.kind=1∨b.kind=2)∧zj5 b.n)→Rd (zfj st { st.sy with uns:=us ++ [u] }) (l.map (bdLn zyz)) (zfj st { st.sy with uns:=us ++ [⟨u.ins,u.outs ++ l⟩] })
 | [],u,_=>by rw[List.append_nil];exact Rd.nil _
 | b :: l,u,h=>by
  have h1:=(zbxg ho us u (h b (by simp)).1 (h b (by simp)).2).2
  have h2:=zbt2 ho us l ⟨u.ins,u.outs ++ [b]⟩ (fun c hc=>h c (by simp[hc]))
  rw[List.append_assoc] at h2
  exact h1.app h2
def unLn (u:PUn):List ByteArray:=[ln z81 []] ++ u.ins.map (bdLn zq9) ++ u.outs.map (bdLn zyz)
theorem zb0v {st:RSt} (ho:st.once=O3) {u:PUn} (h1:∀ b∈u.ins,(b.kind=1∨b.kind=2)∧zj5 b.n) (h2:∀ b∈u.outs,(b.kind=1∨b.kind=2)∧zj5 b.n):Rd st (unLn u) (zboq st u):=by
 have a:Rd st [ln z81 []] (zfj st { st.sy with uns:=st.sy.uns ++ [⟨[],[]⟩] }):=zir (kw := .unit) (zi4 (by decide)) (by simp) (by decide) (by decide) (by
  show z3c st [z81]=_
  rfl) (by rw[ho];decide)
 have b:=zbt1 ho st.sy.uns u.ins ⟨[],[]⟩ h1
 have c:=zbt2 ho st.sy.uns u.outs ⟨[] ++ u.ins,[]⟩ h2
 exact (a.app b).app c
end Go.AM.Cap
