import Derived.Test.YtjchglndancedaaGreatDoorAmWp
set_option linter.all false
/- Slices that one owns: elements of one cell. -/
namespace Go.AM
structure Keeps (S:List Nat) (H H':Heap):Prop where
 next:H.next≤H'.next
 same:∀ b,b < H.next→b ∉ S→H'.get b=H.get b
theorem Keeps.refl (S:List Nat) (H:Heap):Keeps S H H:=⟨Nat.le_refl _,fun _ _ _=>rfl⟩
theorem Keeps.trans {S S':List Nat} {H H1 H2:Heap} (h:Keeps S H H1) (h':Keeps S' H1 H2) (hs:∀ b,b < H.next→b∈S'→b∈S):Keeps S H H2 :=
 ⟨Nat.le_trans h.next h'.next,fun b hb hn=>by rw[h'.same b (Nat.lt_of_lt_of_le hb h.next) (fun hi=>hn (hs b hb hi)),h.same b hb hn]⟩
theorem Keeps.mono {S S':List Nat} {H H1:Heap} (h:Keeps S H H1) (hs:∀ b,b∈S→b∈S'):Keeps S' H H1:=⟨h.next,fun b hb hn=>h.same b hb fun hi=>hn (hs b hi)⟩
theorem Keeps.get {S:List Nat} {H H':Heap} (h:Keeps S H H') {b:Nat} {x:Blk} (hb:H.get b=some x) (hn:b ∉ S):H'.get b=some x:=by
 rw[h.same b (Heap.get_lt hb) hn];exact hb
theorem Keeps.push (S:List Nat) (H:Heap) (x:Option Blk):Keeps S H (H.push x):=⟨by simp,fun b hb _=>Heap.get_push_lt hb⟩
theorem Keeps.set {S:List Nat} {H:Heap} {b:Nat} {x:Option Blk} (h:b∈S):Keeps S H (H.set b x):=⟨by simp,fun c _ hn=>Heap.get_set_ne _ _ _ fun e=>hn (e ▸ h)⟩
def vb (v:V):List Nat:=match v with | .slice (some ⟨b,_,_⟩) _ _=>[b] | _=>[]
@[simp] theorem zb8o (n c:Nat):vb (.slice none n c)=[]:=rfl
@[simp] theorem zb8p (b o u n c:Nat):vb (slc b o u n c)=[b]:=rfl
def Own (H:Heap) (v:V) (l:List V):Prop:=(v = .slice none 0 0∧l=[])∨∃ b,v=slc b 0 1 l.length l.length∧H.get b=some (.cells true l)
theorem Own.nil (H:Heap):Own H (.slice none 0 0) [] := .inl ⟨rfl,rfl⟩
theorem Own.keep {S:List Nat} {H H':Heap} {v:V} {l:List V} (h:Own H v l) (hk:Keeps S H H') (hn:∀ b∈vb v,b ∉ S):Own H' v l:=by
 rcases h with h | ⟨b,rfl,hb⟩
 ·exact .inl h
 ·exact .inr ⟨b,rfl,hk.get hb (hn b (by simp))⟩
theorem Own.len {H:Heap} {v:V} {l:List V} (h:Own H v l):zw v=some (i64 l.length):=by
 rcases h with⟨rfl,rfl⟩ | ⟨b,rfl,hb⟩ <;> rfl
theorem Own.lt {H:Heap} {v:V} {l:List V} (h:Own H v l):∀ b∈vb v,b < H.next:=by
 rcases h with⟨rfl,rfl⟩ | ⟨b,rfl,hb⟩
 ·simp
 ·simpa using Heap.get_lt hb
theorem Own.idx {H:Heap} {v:V} {l:List V} (h:Own H v l) {k:IntKind} {i:Nat} (hi:i < l.length):∃ b,zr 1 v (.int k i)=some (ptr b i)∧zsg H (ptr b i)=some l[i]:=by
 rcases h with⟨rfl,rfl⟩ | ⟨b,rfl,hb⟩
 ·simp at hi
 ·refine⟨b,?_,?_⟩
  ·rw[zbap (by omega) (by omega)];simp
  ·rw[z7z hb];simp[hi]
theorem zb13 {v x:V} {l new:List V} {m bytes:Nat} {a:Option Addr} {c:Nat} {H:Heap} {Q:V→Heap→Prop} (hv:Own H v l) (hx:x = .slice a m c) (hc:zbf H 1 x=some new) (hm:m≠0) (hl:new.length=m) (hone:new.all Value.isOne=true)
  (hb:(l.length + m) * bytes≤35184372088832) (hb2:l.length + m≤35184372088832) (hQ:∀ b H',Own H' (slc b 0 1 (l ++ new).length (l ++ new).length) (l ++ new)→Keeps (vb v) H H'→b=H.next→H'.next=H.next + 1→Q (slc b 0 1 (l ++ new).length (l ++ new).length) H'):wp (zd0 1 bytes v x) Q H:=by
 subst hx
 rcases hv with⟨rfl,rfl⟩ | ⟨b,rfl,hg⟩
 ·refine⟨slc H.next 0 1 m m,H.push (some (.cells true new)),?_,?_⟩
  ·have e1:zbf H 1 (.slice none 0 0)=some []:=rfl
   have e2:zsp H 1 (.slice none 0 0)=some H:=rfl
   simp only[List.length_nil,Nat.zero_add] at hb hb2
   simp only[zd0,zvu,hm,if_false,hc,e1,e2]
   rw[if_pos ⟨by rw[Nat.zero_add];exact hb,by omega,hone,by omega⟩]
   simp
  ·have:=hQ H.next (H.push (some (.cells true new))) (.inr ⟨H.next,by simp,Heap.get_push_self _ _⟩) (Keeps.push _ _ _) rfl (by simp)
   simpa[hl] using this
 ·refine⟨slc H.next 0 1 (l.length + m) (l.length + m),(H.set b none).push (some (.cells true (l ++ new))),?_,?_⟩
  ·have hcs:zbf H 1 (slc b 0 1 l.length l.length)=some l:=by
    simp only[zbf]
    split
    ·rename_i h0;rw[List.eq_nil_of_length_eq_zero h0]
    ·simp[cellsAt,hg]
   simp only[zd0,zvu,hm,if_false,hc,hcs,zsp,hg,if_true]
   rw[if_pos ⟨hb,hb2,hone,by omega⟩]
   simp
  ·have:=hQ H.next ((H.set b none).push (some (.cells true (l ++ new)))) (.inr ⟨H.next,by simp,by have:=Heap.get_push_self (H.set b none) (some (.cells true (l ++ new)));simpa using this⟩) ⟨by simp,fun c hc hn=>by rw[Heap.get_push_lt (by simpa using hc),Heap.get_set_ne _ _ _ (by simpa using hn)]⟩ rfl (by simp)
   simpa[hl] using this
theorem zbzi {v:V} {l new zero:List V} {parts:List (Nat × Nat × V)} {m bytes:Nat} {H:Heap} {Q:V→Heap→Prop} (hv:Own H v l) (hz:zero.all zge=true) (hf:zbu zero parts=some new) (hm:m≠0) (hl:new.length=m) (hone:new.all Value.isOne=true)
  (hb:(l.length + m) * bytes≤35184372088832) (hb2:l.length + m≤35184372088832) (hQ:∀ b H',Own H' (slc b 0 1 (l ++ new).length (l ++ new).length) (l ++ new)→Keeps (vb v) H H'→H.next≤b→Q (slc b 0 1 (l ++ new).length (l ++ new).length) H') :
  wp (zcc 1 m zero parts) (fun x H1=>wp (zd0 1 bytes v x) Q H1) H:=by
 refine (zdf hz hf).mpr ?_
 have hk:=Keeps.push [] H (some (.cells true new))
 refine zb13 (hv.keep hk (by simp)) rfl ?_ hm hl hone hb hb2 fun b H' h1 h2 h3 h4=>hQ b H' h1 ?_ (by simp at h3;omega)
 ·have:=Heap.get_push_self H (some (.cells true new))
  simp[zbf,hm,cellsAt,this,hl]
  rw[← hl,List.take_length]
 ·exact⟨by have:=h2.next;simp at this;omega,fun c hc hn=>by rw[h2.same c (by simp;omega) hn,Heap.get_push_lt hc]⟩
theorem zb5c {v:V} {l:List V} {bs:List UInt8} {H:Heap} {Q:V→Heap→Prop} (hv:Own H v l) (hl:zql l=some bs) (hQ:Q (.string ⟨bs.toArray⟩) H):wp (b2s v) Q H:=by
 rcases hv with⟨rfl,rfl⟩ | ⟨b,rfl,hg⟩
 ·simp[zql] at hl;subst hl
  exact⟨_,_,rfl,hQ⟩
 ·refine⟨_,_,?_,hQ⟩
  simp[b2s,cellsAt,hg,hl]
end Go.AM

/- Rules for walks: conditions that are told at once. -/
namespace Go.AM
section
variable {p:Prop} [Decidable p]
theorem zbzj {a b:M Out} (h:p):zp (.bool (decide p)) a b=a:=by simp[h]
theorem zbzk {a b:M Out} (h:¬ p):zp (.bool (decide p)) a b=b:=by simp[h]
theorem zb7a {m:M V} (h:p):gd (.bool (decide p)) true m=m:=by simp[h]
theorem zb7b {m:M V} (h:¬ p):gd (.bool (decide p)) true m=ret zqm:=by simp[h]
theorem zb5d {m:M V} (h:p):gd (.bool (decide p)) false m=ret zqm:=by simp[h]
theorem zb5e {m:M V} (h:¬ p):gd (.bool (decide p)) false m=m:=by simp[h]
theorem zb14 {x y:V} (h:p):z8 (.bool (decide p)) x y=some x:=by simp[h]
theorem zb15 {x y:V} (h:¬ p):z8 (.bool (decide p)) x y=some y:=by simp[h]
theorem zb16:un .not (.bool (decide p))=some (.bool (decide (¬ p))):=by simp[un]
end
theorem zb17 (a b:M Out):zp (.bool true) a b=a:=rfl
theorem zb18 (a b:M Out):zp (.bool false) a b=b:=rfl
theorem gd_t (m:M V):gd (.bool true) true m=m:=rfl
theorem gd_f (m:M V):gd (.bool false) true m=ret zqm:=rfl
theorem zb7c (m:M V):gd (.bool true) false m=ret zqm:=rfl
theorem zb7d (m:M V):gd (.bool false) false m=m:=rfl
theorem zb5f (x y:V):z8 (.bool true) x y=some x:=rfl
theorem zb5g (x y:V):z8 (.bool false) x y=some y:=rfl
theorem zb7e:un .not (.bool true)=some (.bool false):=rfl
theorem zb7f:un .not (.bool false)=some (.bool true):=rfl
theorem zb19 (k:IntKind) (x y:Int):zu .eql (.int k x) (.int k y)=some (.bool (decide (x=y))):=by
 simp[zu,z07,BEq.beq]
theorem zb2a (k:IntKind) (x y:Int):zu .neq (.int k x) (.int k y)=some (.bool (decide (x≠y))):=by
 simp[zu,z07,bne,BEq.beq]
theorem zb2b (x y:ByteArray):zu .eql (.string x) (.string y)=some (.bool (decide (x=y))):=rfl
theorem zb2c (x y:ByteArray):zu .neq (.string x) (.string y)=some (.bool (decide (x≠y))):=by simp[zu,sbin]
@[simp] theorem zbw7 (b o:Nat):zer false (zef .p (ptr b o))=some (.bool false):=rfl
@[simp] theorem zbtu (b o:Nat):zer true (zef .p (ptr b o))=some (.bool true):=rfl
@[simp] theorem zbtv:zer false (zef .p (.pointer none))=some (.bool true):=rfl
@[simp] theorem zbqi:zer true (zef .p (.pointer none))=some (.bool false):=rfl
end Go.AM

/- Strings and their bytes. -/
namespace Go.AM
def bv (s:ByteArray):List (BitVec 8):=s.data.toList.map UInt8.toBitVec
def sv (l:List (BitVec 8)):ByteArray:=⟨(l.map UInt8.ofBitVec).toArray⟩
theorem zbw8 (s:ByteArray):zn6 s=(bv s).map B:=by
 simp only[zn6,bv,List.map_map];rfl
theorem zci (s:ByteArray):(bv s).length=s.size:=by simp only[bv,List.length_map,Array.length_toList];rfl
theorem z4l (l:List (BitVec 8)):bv (sv l)=l:=by
 simp only[bv,sv,List.map_map]
 conv=>rhs;rw[← List.map_id l]
 apply List.map_congr_left
 intro x _;rfl
theorem zbmk (s:ByteArray):sv (bv s)=s:=by
 cases s with | mk d =>
 simp only[bv,sv,List.map_map]
 congr 1
 apply Array.toList_inj.mp
 simp only[List.toList_toArray]
 conv=>rhs;rw[← List.map_id d.toList]
 apply List.map_congr_left
 intro x _;rfl
theorem zbnq {s t:ByteArray} (h:bv s=bv t):s=t:=by rw[← zbmk s,h,zbmk]
theorem zb5h {l m:List (BitVec 8)} (h:sv l=sv m):l=m:=by rw[← z4l l,h,z4l]
theorem zbcl (l:List (BitVec 8)):(sv l).size=l.length:=by rw[← zci,z4l]
theorem zbw9 (s t:ByteArray):bv (s ++ t)=bv s ++ bv t:=by
 have h:(s ++ t).data=s.data ++ t.data:=ByteArray.data_append
 simp only[bv,h,Array.toList_append,List.map_append]
theorem bv_extract (s:ByteArray) (a b:Nat):bv (s.extract a b)=((bv s).drop a).take (b - a):=by
 have h:(s.extract a b).data=s.data.extract a b:=ByteArray.data_extract
 simp only[bv,h,Array.toList_extract,List.extract,List.map_take,List.map_drop]
theorem zbzl:bv ⟨#[]⟩=[]:=rfl
theorem zb5i {s:ByteArray}:bv s=[]↔s=⟨#[]⟩:=⟨fun h=>zbnq (h.trans zbzl.symm),fun h=>by rw[h];rfl⟩
theorem size_append (s t:ByteArray):(s ++ t).size=s.size + t.size:=by rw[← zci,zbw9,List.length_append,zci,zci]
theorem zbml:∀ l:List (BitVec 8),zql (l.map B)=some (l.map UInt8.ofBitVec)
 | []=>rfl
 | x :: l=>by
  simp only[List.map_cons,zql,zbml l,zbg6]
  congr 2
  apply UInt8.toBitVec_inj.mp
  apply BitVec.eq_of_toNat_eq
  show (UInt8.ofNat (x.toNat:Int).toNat).toBitVec.toNat=x.toNat
  have:=x.isLt
  simp
theorem zbnr {v:V} {l:List (BitVec 8)} {H:Heap} {Q:V→Heap→Prop} (hv:Own H v (l.map B)) (hQ:Q (.string (sv l)) H):wp (b2s v) Q H:=zb5c hv (zbml l) hQ
theorem ztb {s:ByteArray} {k:IntKind} {i:Int} (h0:0≤i) (h:i < s.size):zjm (.string s) (.int k i)=some (B ((bv s).getD i.toNat 0)):=by
 have hi:i.toNat < s.size:=by omega
 have hb:i.toNat < (bv s).length:=by rw[zci];exact hi
 have e:s[i.toNat]? = some s[i.toNat]:=getElem?_pos s i.toNat hi
 have e2:(bv s).getD i.toNat 0=s[i.toNat].toBitVec:=by
  rw[List.getD_eq_getElem?_getD,List.getElem?_eq_getElem hb]
  simp only[bv,List.getElem_map,Option.getD_some]
  rfl
 simp only[zjm,h0,if_true,e,e2]
 rfl
theorem zb2d {s:ByteArray} {k:IntKind} {a:Int} (h1:0≤a) (h3:a≤s.size):subS (.string s) (some (.int k a)) none=some (.string (s.extract a.toNat s.size)):=by
 have e2:zd1 0 s.size (some (.int k a))=some a.toNat:=by simp[zd1];omega
 simp[subS,e2]
 simp[zd1]
 simp[zd1] at e2
 simp[e2]
theorem zb2e {s:ByteArray} {k':IntKind} {b:Int} (h2:0≤b) (h3:b≤s.size):subS (.string s) none (some (.int k' b))=some (.string (s.extract 0 b.toNat)):=by
 have e1:zd1 s.size s.size (some (.int k' b))=some b.toNat:=by simp[zd1];omega
 have e2:zd1 0 b.toNat none=some 0:=rfl
 simp only[subS,e1,e2]
theorem zb4d {n:Int} (h0:0≤n) (h1:n≤255):IntKind.u8.wrap n=n:=by rw[IntKind.wrap_u8];omega
theorem zb2f {k:IntKind} {x y:Int} (h:y≠0):zu .rem (.int k x) (.int k y)=some (.int k (x.tmod y)):=by simp[zu,z07,h]
theorem zb2g {k:IntKind} {x y:Int} (h:y≠0):zu .quo (.int k x) (.int k y)=some (.int k (k.wrap (x.tdiv y))):=by simp[zu,z07,h]
theorem zbqj {k:IntKind} {x y:Int} (h0:0≤x) (h:0 < y):zu .rem (.int k x) (.int k y)=some (.int k (x % y)):=by
 rw[zb2f (by omega),Int.tmod_eq_emod_of_nonneg h0]
theorem zbqk {k:IntKind} {x y:Int} (h0:0≤x) (h:0 < y):zu .quo (.int k x) (.int k y)=some (.int k (k.wrap (x / y))):=by
 rw[zb2g (by omega),Int.tdiv_eq_ediv_of_nonneg h0]
theorem zb2h (k k':IntKind) (n:Int):cvi k (.int k' n)=some (.int k (k.wrap n)):=rfl
theorem b_lt (x:BitVec 8):x.toNat < 256:=x.isLt
theorem zb5j (x y:BitVec 8):zu .and (B x) (B y)=some (B (x &&& y)):=by
 simp[zu,z07,zbbw,zbzf,zic,IntKind.bits];rfl
theorem zb5k {x:BitVec 8} {k:IntKind} {n:Int} (h:0≤n):zu .shr (B x) (.int k n)=some (B (x >>> n.toNat)):=by
 have h':=zb1u x.toNat n.toNat 8 x.isLt
 have h0:¬ (n < 0):=by omega
 simp only[zu,zbab,IntKind.bits,h0,if_false,h']
 rfl
theorem zb4e (n:Nat) (h:n < 256):Value.int .u8 (n:Int)=B (BitVec.ofNat 8 n):=by
 show Value.int .u8 _=Value.int .u8 _
 congr 1
 simp[BitVec.toNat_ofNat];omega
def hexd (n:Nat):BitVec 8:=if n < 10 then BitVec.ofNat 8 (48 + n) else BitVec.ofNat 8 (87 + n)
def hexl (l:List (BitVec 8)):List (BitVec 8):=l.flatMap fun b=>[hexd (b.toNat / 16),hexd (b.toNat % 16)]
theorem z4m (l:List (BitVec 8)):(hexl l).length=2 * l.length:=by
 induction l with
 | nil=>rfl
 | cons b l ih=>simp only[hexl,List.flatMap_cons,List.length_append,List.length_cons,List.length_nil] at ih ⊢;omega
theorem zbig {k:IntKind} {n:Nat} (h:n < 16):zjm (.string ⟨#[48,49,50,51,52,53,54,55,56,57,97,98,99,100,101,102]⟩) (.int k (n:Int))=some (B (hexd n)):=by
 have:n=0∨n=1∨n=2∨n=3∨n=4∨n=5∨n=6∨n=7∨n=8∨n=9∨n=10∨n=11∨n=12∨n=13∨n=14∨n=15:=by omega
 rcases this with h | h | h | h | h | h | h | h | h | h | h | h | h | h | h | h <;> subst h <;> rfl
end Go.AM

/- Slices of things that lie flat in cells. -/
namespace Go.AM
class Flat (α:Type) where
 size:Nat
 enc:α→List V
 len:∀ a,(enc a).length=size
 one:∀ a,(enc a).all Value.isOne=true
 pos:0 < size
instance:Flat Int:=⟨1,fun n=>[i64 n],fun _=>rfl,fun _=>rfl,by decide⟩
instance:Flat ByteArray:=⟨1,fun s=>[.string s],fun _=>rfl,fun _=>rfl,by decide⟩
instance:Flat (BitVec 8):=⟨1,fun b=>[B b],fun _=>rfl,fun _=>rfl,by decide⟩
instance:Flat Bool:=⟨1,fun b=>[.bool b],fun _=>rfl,fun _=>rfl,by decide⟩
theorem zb2j (n:Int):Flat.enc n=[i64 n]:=rfl
theorem zb2k (s:ByteArray):Flat.enc s=[.string s]:=rfl
theorem zbzm (b:BitVec 8):Flat.enc b=[B b]:=rfl
theorem zbzn (b:Bool):Flat.enc b=[.bool b]:=rfl
variable {α:Type} [Flat α]
def zbj (xs:List α):List V:=xs.flatMap Flat.enc
theorem zhb (x:α) (xs:List α):zbj (x :: xs)=Flat.enc x ++ zbj xs:=rfl
theorem zbf5 (xs ys:List α):zbj (xs ++ ys)=zbj xs ++ zbj ys:=by simp[zbj]
theorem zb6 (xs:List α):(zbj xs).length=xs.length * Flat.size α:=by
 induction xs with
 | nil=>simp[zbj]
 | cons x xs ih=>rw[zhb,List.length_append,ih,Flat.len,List.length_cons,Nat.add_mul];omega
theorem zbcm (xs:List α):(zbj xs).all Value.isOne=true:=by
 induction xs with
 | nil=>rfl
 | cons x xs ih=>rw[zhb,List.all_append,ih,Flat.one];rfl
theorem zbez (xs:List α):∀ i,(zbj xs).drop (i * Flat.size α)=zbj (xs.drop i):=by
 induction xs with
 | nil=>intro i;simp[zbj]
 | cons x xs ih =>
  intro i
  cases i with
  | zero=>simp
  | succ i =>
   rw[zhb,Nat.add_mul,Nat.one_mul,Nat.add_comm,← List.drop_drop]
   rw[List.drop_append_of_le_length (by rw[Flat.len];exact Nat.le_refl _)]
   rw[show (Flat.enc x).drop (Flat.size α)=[] from List.drop_eq_nil_of_le (by rw[Flat.len];exact Nat.le_refl _)]
   exact ih i
theorem zbe0 (xs:List α):∀ i,(zbj xs).take (i * Flat.size α)=zbj (xs.take i):=by
 induction xs with
 | nil=>intro i;simp[zbj]
 | cons x xs ih =>
  intro i
  cases i with
  | zero=>simp[zbj]
  | succ i =>
   rw[zhb,Nat.add_mul,Nat.one_mul,Nat.add_comm,List.take_add,List.take_append_of_le_length (by rw[Flat.len];exact Nat.le_refl _)]
   rw[show (Flat.enc x).take (Flat.size α)=Flat.enc x from List.take_of_length_le (by rw[Flat.len];exact Nat.le_refl _)]
   rw[List.drop_append_of_le_length (by rw[Flat.len];exact Nat.le_refl _),show (Flat.enc x).drop (Flat.size α)=[] from List.drop_eq_nil_of_le (by rw[Flat.len];exact Nat.le_refl _)]
   rw[List.nil_append,ih i,List.take_succ_cons,zhb]
theorem zbzo (xs:List α):∀ (i off:Nat) (v:V) (x':α) (d:α),i < xs.length→off < Flat.size α→Flat.enc x'=(Flat.enc (xs.getD i d)).set off v→(zbj xs).set (i * Flat.size α + off) v=zbj (xs.set i x'):=by
 induction xs with
 | nil=>intro i off v x' d hi;simp at hi
 | cons x xs ih =>
  intro i off v x' d hi ho hx
  cases i with
  | zero =>
   rw[zhb,Nat.zero_mul,Nat.zero_add,List.set_append_left _ _ (by rw[Flat.len];exact ho),List.set_cons_zero,zhb,hx]
   rfl
  | succ i =>
   rw[zhb,List.set_append_right _ _ (by rw[Flat.len,Nat.add_mul];omega),Flat.len,List.set_cons_succ,zhb]
   congr 1
   have:(i + 1) * Flat.size α + off - Flat.size α=i * Flat.size α + off:=by rw[Nat.add_mul];omega
   rw[this]
   exact ih i off v x' d (by simpa using hi) ho hx
def slB:V→Nat | .slice (some a) _ _=>a.block | _=>0
def slO:V→Nat | .slice (some a) _ _=>a.off | _=>0
def Sl (H:Heap) (v:V) (xs:List α):Prop:=(v = .slice none 0 0∧xs=[])∨∃ b o u c,v=slc b o u xs.length c∧xs.length≤c∧b < H.next∧(xs=[]∨∃ rw cs,H.get b=some (.cells rw cs)∧o + xs.length * Flat.size α≤cs.length∧(cs.drop o).take (xs.length * Flat.size α)=zbj xs)∧(u=0∨u=Flat.size α)
theorem Sl.nil (H:Heap):Sl H (.slice none 0 0) ([]:List α) := .inl ⟨rfl,rfl⟩
theorem Sl.keep {S:List Nat} {H H':Heap} {v:V} {l:List α} (h:Sl H v l) (hk:Keeps S H H') (hn:∀ b∈vb v,b ∉ S):Sl H' v l:=by
 rcases h with h | ⟨b,o,u,c,rfl,hc,hb,hl,hu⟩
 ·exact .inl h
 ·refine .inr ⟨b,o,u,c,rfl,hc,Nat.lt_of_lt_of_le hb hk.next,?_,hu⟩
  rcases hl with hl | ⟨rw,cs,h1,h2⟩
  ·exact .inl hl
  ·exact .inr ⟨rw,cs,hk.get h1 (hn b (by simp)),h2⟩
theorem Sl.keep0 {H H':Heap} {v:V} {l:List α} (h:Sl H v l) (hk:Keeps [] H H'):Sl H' v l:=h.keep hk (by simp)
theorem Sl.len {H:Heap} {v:V} {l:List α} (h:Sl H v l):zw v=some (i64 l.length):=by
 rcases h with⟨rfl,rfl⟩ | ⟨b,o,u,c,rfl,_⟩ <;> rfl
theorem Sl.lt {H:Heap} {v:V} {l:List α} (h:Sl H v l):∀ b∈vb v,b < H.next:=by
 rcases h with⟨rfl,rfl⟩ | ⟨b,o,u,c,rfl,hc,hb,hl⟩
 ·simp
 ·simpa using hb
theorem Sl.isOne {H:Heap} {v:V} {l:List α} (h:Sl H v l):v.isOne=true:=by
 rcases h with⟨rfl,rfl⟩ | ⟨b,o,u,c,rfl,_⟩ <;> rfl
theorem Sl.addr {H:Heap} {v:V} {l:List α} (h:Sl H v l) {k:IntKind} {i:Int} (h0:0≤i) (hi:i < l.length):zr (Flat.size α) v (.int k i)=some (ptr (slB v) (slO v + i.toNat * Flat.size α)):=by
 rcases h with⟨rfl,rfl⟩ | ⟨b,o,u,c,rfl,_⟩
 ·simp at hi;omega
 ·exact zbap h0 hi
theorem zbzp (cs:List V) (xs:List α) (o i:Nat) (hi:i < xs.length) (d:α) (hl:(cs.drop o).take (xs.length * Flat.size α)=zbj xs):(cs.drop (o + i * Flat.size α)).take (Flat.size α)=Flat.enc (xs.getD i d):=by
 have e1:((zbj xs).drop (i * Flat.size α)).take (Flat.size α)=Flat.enc (xs.getD i d):=by
  rw[zbez]
  have:xs.drop i=xs.getD i d :: xs.drop (i + 1):=by
   rw[List.getD_eq_getElem?_getD,List.getElem?_eq_getElem hi]
   exact List.drop_eq_getElem_cons hi
  rw[this,zhb,List.take_append_of_le_length (by rw[Flat.len];exact Nat.le_refl _),List.take_of_length_le (by rw[Flat.len];exact Nat.le_refl _)]
 rw[← e1,← hl,List.drop_take,List.take_take,List.drop_drop]
 congr 1
 have:(i + 1) * Flat.size α≤xs.length * Flat.size α:=Nat.mul_le_mul_right _ hi
 rw[Nat.add_mul] at this
 omega
theorem Sl.ldn {H:Heap} {v:V} {l:List α} (h:Sl H v l) {i:Nat} (hi:i < l.length) (d:α) {Q:V→Heap→Prop}:wp (ldn (Flat.size α) (ptr (slB v) (slO v + i * Flat.size α))) Q H↔Q (.agg (Flat.enc (l.getD i d)).toArray) H:=by
 rcases h with⟨rfl,rfl⟩ | ⟨b,o,u,c,rfl,hc,_,hl,_⟩
 ·simp at hi
 ·rcases hl with rfl | ⟨rw,cs,hb,hl1,hl2⟩
  ·simp at hi
  ·have h1:(i + 1) * Flat.size α≤l.length * Flat.size α:=Nat.mul_le_mul_right _ hi
   rw[Nat.add_mul] at h1
   show wp (Go.AM.ldn _ (ptr b (o + i * Flat.size α))) Q H↔_
   rw[zbts hb (by omega),zbzp cs l o i hi d hl2]
theorem Sl.cell {H:Heap} {v:V} {l:List α} (h:Sl H v l) {i off:Nat} (hi:i < l.length) (ho:off < Flat.size α) (d:α):zsg H (ptr (slB v) (slO v + i * Flat.size α + off))=(Flat.enc (l.getD i d))[off]? := by
 rcases h with⟨rfl,rfl⟩ | ⟨b,o,u,c,rfl,hc,_,hl,_⟩
 ·simp at hi
 ·rcases hl with rfl | ⟨rw,cs,hb,hl1,hl2⟩
  ·simp at hi
  ·show zsg H (ptr b (o + i * Flat.size α + off))=_
   rw[z7z hb,← zbzp cs l o i hi d hl2,List.getElem?_take,if_pos ho,List.getElem?_drop]
theorem Sl.addr' {H:Heap} {v:V} {l:List α} (h:Sl H v l) {n:Nat} (hs:Flat.size α=n) {k:IntKind} {i:Int} (h0:0≤i) (hi:i < l.length):zr n v (.int k i)=some (ptr (slB v) (slO v + i.toNat * n)):=by subst hs;exact h.addr h0 hi
theorem Sl.ldn' {H:Heap} {v:V} {l:List α} (h:Sl H v l) {n:Nat} (hs:Flat.size α=n) {i:Nat} (hi:i < l.length) (d:α) {Q:V→Heap→Prop}:wp (Go.AM.ldn n (ptr (slB v) (slO v + i * n))) Q H↔Q (.agg (Flat.enc (l.getD i d)).toArray) H:=by subst hs;exact h.ldn hi d
theorem Sl.cell' {H:Heap} {v:V} {l:List α} (h:Sl H v l) {n:Nat} (hs:Flat.size α=n) {i off:Nat} (hi:i < l.length) (ho:off < n) (d:α):zsg H (ptr (slB v) (slO v + i * n + off))=(Flat.enc (l.getD i d))[off]? := by subst hs;exact h.cell hi ho d
theorem Sl.addr1 {H:Heap} {v:V} {l:List α} (h:Sl H v l) (hs:Flat.size α=1) {k:IntKind} {i:Int} (h0:0≤i) (hi:i < l.length):zr 1 v (.int k i)=some (ptr (slB v) (slO v + i.toNat)):=by
 have:=h.addr (k:=k) h0 hi
 rw[hs,Nat.mul_one] at this
 exact this
theorem Sl.cell1 {H:Heap} {v:V} {l:List α} (h:Sl H v l) (hs:Flat.size α=1) {i:Nat} (hi:i < l.length) (d:α):zsg H (ptr (slB v) (slO v + i))=(Flat.enc (l.getD i d))[0]? := by
 have:=h.cell (off:=0) hi (by omega) d
 rw[hs,Nat.mul_one,Nat.add_zero] at this
 exact this
theorem Own.sl {H:Heap} {v:V} {l:List α} (hs:Flat.size α=1) (h:Own H v (zbj l)):Sl H v l:=by
 rcases h with⟨rfl,hl⟩ | ⟨b,rfl,hb⟩
 ·refine .inl ⟨rfl,?_⟩
  have:=congrArg List.length hl
  rw[zb6,hs] at this
  exact List.eq_nil_of_length_eq_zero (by simpa using this)
 ·have e:(zbj l).length=l.length:=by rw[zb6,hs,Nat.mul_one]
  refine .inr ⟨b,0,1,l.length,by rw[e],Nat.le_refl _,Heap.get_lt hb,.inr ⟨true,zbj l,hb,by rw[zb6];omega,?_⟩,.inr hs.symm⟩
  rw[List.drop_zero,List.take_of_length_le (by rw[zb6];exact Nat.le_refl _)]
end Go.AM

/- Heaps that are written out: what a block holds is told by rules. -/
namespace Go.AM
namespace Heap
theorem get_push_eq {H:Heap} {x:Option Blk} {b:Nat} (h:b=H.next):(H.push x).get b=x:=by subst h;exact get_push_self H x
theorem get_set_eq {H:Heap} {b:Nat} {x:Option Blk} (h:b < H.next):(H.set b x).get b=x:=get_set_self h
theorem get_set_ne' {H:Heap} {b c:Nat} {x:Option Blk} (h:c≠b):(H.set b x).get c=H.get c:=get_set_ne _ _ _ h
theorem set_push_lt {H:Heap} {x y:Option Blk} {b:Nat} (h:b < H.next):(H.push x).set b y=(H.set b y).push x:=by
 refine Heap.same rfl fun c _=>?_
 rw[z0b,Heap.get_push,Heap.get_push,z0b]
 have e1:(H.push x).next=H.next + 1:=rfl
 have e2:(H.set b y).next=H.next:=rfl
 rw[e1,e2]
 by_cases q:c=b
 ·subst q;rw[if_pos ⟨rfl,by omega⟩,if_neg (by omega),if_pos ⟨rfl,h⟩]
 ·rw[if_neg (fun z=>q z.1)]
  by_cases q2:c=H.next
  ·rw[if_pos q2,if_pos q2]
  ·rw[if_neg q2,if_neg q2,if_neg (fun z=>q z.1)]
theorem set_push_eq {H:Heap} {x y:Option Blk} {b:Nat} (h:b=H.next):(H.push x).set b y=H.push y:=by
 subst h
 refine Heap.same rfl fun c _=>?_
 rw[z0b,Heap.get_push,Heap.get_push]
 have e1:(H.push x).next=H.next + 1:=rfl
 rw[e1]
 by_cases q:c=H.next
 ·rw[if_pos ⟨q,by omega⟩,if_pos q]
 ·rw[if_neg (fun z=>q z.1),if_neg q,if_neg q]
end Heap
def zes:Option Blk→Nat→Option V
 | some (.cells _ cs),o=>cs[o]?
 | _,_=>none
theorem zbd (H:Heap) (b o:Nat):zsg H (ptr b o)=zes (H.get b) o:=by
 simp only[zsg,Heap.cell]
 split <;> simp_all [zes]
theorem z4n (rw:Bool) (cs:List V) (o:Nat):zes (some (.cells rw cs)) o=cs[o]? := rfl
def stG (x:Option Blk) (o:Nat) (v:V) (k:Option Blk→Prop):Prop:=match x with
 | some (.cells true cs)=>v.isOne=true∧o < cs.length∧k (some (.cells true (cs.set o v)))
 | _=>False
theorem zn (H:Heap) (b o:Nat) (v:V) {Q:V→Heap→Prop}:wp (st1 (ptr b o) v) Q H↔stG (H.get b) o v fun y=>Q undef (H.set b y):=by
 unfold stG
 constructor
 ·rintro⟨a,H',h1,h2⟩
  simp only[st1] at h1
  split at h1
  ·rename_i cs hg
   rw[hg]
   split at h1
   ·rename_i hc
    cases h1
    simp only[Bool.and_eq_true,decide_eq_true_eq] at hc
    exact⟨hc.1,hc.2,h2⟩
   ·cases h1
  ·cases h1
 ·intro h
  split at h
  ·rename_i cs hg
   exact (zbzg hg h.1 h.2.1).mpr h.2.2
  ·exact h.elim
@[congr] theorem zb6v {x x':Option Blk} {o:Nat} {v:V} {k:Option Blk→Prop} (h:x=x'):stG x o v k=stG x' o v k:=by rw[h]
theorem zbzq {cs:List V} {o:Nat} {v:V} {k:Option Blk→Prop} (ho:o < cs.length):stG (some (.cells true cs)) o v k↔(v.isOne=true∧k (some (.cells true (cs.set o v)))):=by simp[stG,ho]
def stnG (x:Option Blk) (n o:Nat) (v:V) (k:Option Blk→Prop):Prop:=match x,v with
 | some (.cells true cs),.agg vs=>vs.toList.all Value.isOne=true∧vs.toList.length=n∧o + n≤cs.length∧k (some (.cells true (splice cs o vs.toList)))
 | _,_=>False
theorem zo (H:Heap) (b o n:Nat) (v:V) {Q:V→Heap→Prop}:wp (stn n (ptr b o) v) Q H↔stnG (H.get b) n o v fun y=>Q undef (H.set b y):=by
 unfold stnG
 constructor
 ·rintro⟨a,H',h1,h2⟩
  simp only[stn] at h1
  split at h1
  ·rename_i b' o' vs hp
   cases hp
   split at h1
   ·rename_i cs hg
    rw[hg]
    split at h1
    ·rename_i hc
     cases h1
     simp only[Bool.and_eq_true,decide_eq_true_eq,beq_iff_eq] at hc
     exact⟨hc.1.1,hc.1.2,hc.2,h2⟩
    ·cases h1
   ·cases h1
  ·cases h1
 ·intro h
  split at h
  ·rename_i cs vs hg
   refine⟨undef,_,?_,h.2.2.2⟩
   simp only[stn,hg]
   rw[if_pos (by simp[h.1,h.2.1,h.2.2.1])]
  ·exact h.elim
@[congr] theorem zb5l {x x':Option Blk} {n o:Nat} {v:V} {k:Option Blk→Prop} (h:x=x'):stnG x n o v k=stnG x' n o v k:=by rw[h]
theorem zbha {cs vs:List V} {n o:Nat} {k:Option Blk→Prop} (hv:vs.all Value.isOne=true) (hn:vs.length=n) (ho:o + n≤cs.length):stnG (some (.cells true cs)) n o (.agg vs.toArray) k↔k (some (.cells true (splice cs o vs))):=by simp[stnG,hv,hn,ho]
def ldG (x:Option Blk) (n o:Nat) (k:V→Prop):Prop:=match x with
 | some (.cells _ cs)=>o + n≤cs.length∧k (.agg ((cs.drop o).take n).toArray)
 | _=>False
theorem zbz (H:Heap) (b o n:Nat) {Q:V→Heap→Prop}:wp (ldn n (ptr b o)) Q H↔ldG (H.get b) n o fun y=>Q y H:=by
 unfold ldG
 constructor
 ·rintro⟨a,H',h1,h2⟩
  simp only[ldn,cellsAt] at h1
  split at h1
  ·rename_i l hl
   cases h1
   split at hl
   ·rename_i rw cs hg
    rw[hg]
    split at hl
    ·rename_i hc;cases hl;exact⟨hc,h2⟩
    ·cases hl
   ·cases hl
  ·cases h1
 ·intro h
  split at h
  ·rename_i rw cs hg
   exact (zbts hg h.1).mpr h.2
  ·exact h.elim
@[congr] theorem zb6x {x x':Option Blk} {n o:Nat} {k:V→Prop} (h:x=x'):ldG x n o k=ldG x' n o k:=by rw[h]
theorem zy2 {rw:Bool} {cs:List V} {n o:Nat} {k:V→Prop} (ho:o + n≤cs.length):ldG (some (.cells rw cs)) n o k↔k (.agg ((cs.drop o).take n).toArray):=by simp[ldG,ho]
theorem zbih {cs:List V} {H:Heap} {Q:V→Heap→Prop} (h:cs.all zge=true):wp (newc cs) Q H↔Q (ptr H.next 0) (H.push (some (.cells true cs))):=zbck h
theorem zb0 {vs:List V} {H:Heap} {Q:V→Heap→Prop} (h:vs.all Value.isOne=true):wp (zdc (.agg vs.toArray)) Q H↔Q (ptr H.next 0) (H.push (some (.cells true vs))):=by
 have hc:(Value.agg vs.toArray).cells.toList=vs:=by simp[Value.cells]
 constructor
 ·rintro⟨a,H',h1,h2⟩
  unfold zdc at h1
  rw[hc,if_pos h] at h1
  cases h1;exact h2
 ·intro hq;exact⟨_,_,by unfold zdc;rw[hc,if_pos h],hq⟩
theorem zbhb {v:V} {H:Heap} {Q:V→Heap→Prop} (h:v.isOne=true):wp (zdc v) Q H↔Q (ptr H.next 0) (H.push (some (.cells true [v]))):=by
 have hc:v.cells.toList=[v]:=by rw[z7q h]
 constructor
 ·rintro⟨a,H',h1,h2⟩
  unfold zdc at h1
  rw[hc] at h1
  rw[if_pos (by simp[h])] at h1
  cases h1;exact h2
 ·intro hq;exact⟨_,_,by unfold zdc;rw[hc,if_pos (by simp[h])],hq⟩
theorem zbii (off:Nat) (vs:List V):fld1 off (.agg vs.toArray)=vs[off]? := by simp[fld1]
theorem zbij {off n:Nat} {vs:List V} (h:off + n≤vs.length):fldn off n (.agg vs.toArray)=some (.agg ((vs.drop off).take n).toArray):=by simp[fldn,h]
theorem z0c (i:Nat) (vs:List V):ext i (.tuple vs.toArray)=vs[i]? := by simp[ext]
section
variable {α:Type} [DecidableEq α] {x y:α} {p:Prop} [Decidable p]
theorem zbik {a b:M Out} (h:p):zp (.bool (decide (¬ p))) a b=b:=by simp[h]
theorem zbe1 {a b:M Out} (h:x=y):zp (.bool (decide (x≠y))) a b=b:=by simp[h]
theorem zbtw {m:M V} (h:x=y):gd (.bool (decide (x≠y))) true m=ret zqm:=by simp[h]
theorem zbns {m:M V} (h:x=y):gd (.bool (decide (x≠y))) false m=m:=by simp[h]
theorem zbil {a b:V} (h:x=y):z8 (.bool (decide (x≠y))) a b=some b:=by simp[h]
end
section
variable {p:Prop} [Decidable p] {Q:Out→Heap→Prop} {QV:V→Heap→Prop} {QQ:V→Prop} {H:Heap}
end
section
variable {c:Bool} {Q:Out→Heap→Prop} {QV:V→Heap→Prop} {QQ:V→Prop} {H:Heap}
end
section
variable {p:Prop} [Decidable p] {Q:Out→Heap→Prop} {QV:V→Heap→Prop} {QQ:V→Prop} {H:Heap}
theorem zkx {a b:M Out} (h1:p→wp a Q H) (h2:¬ p→wp b Q H):wp (zp (.bool (decide p)) a b) Q H:=by by_cases h:p <;> simp_all
theorem zpx {m:M V} (h1:p→wp m QV H) (h2:¬ p→QV zqm H):wp (gd (.bool (decide p)) true m) QV H:=by by_cases h:p <;> simp_all
theorem zm8 {m:M V} (h1:p→QV zqm H) (h2:¬ p→wp m QV H):wp (gd (.bool (decide p)) false m) QV H:=by by_cases h:p <;> simp_all
theorem zi6 {x y:V} (h1:p→QQ x) (h2:¬ p→QQ y):wpO (z8 (.bool (decide p)) x y) QQ:=by by_cases h:p <;> simp_all
end
section
variable {c:Bool} {Q:Out→Heap→Prop} {QV:V→Heap→Prop} {QQ:V→Prop} {H:Heap}
theorem zsq {a b:M Out} (h1:c=true→wp a Q H) (h2:c=false→wp b Q H):wp (zp (.bool c) a b) Q H:=by cases c <;> simp_all
theorem z0d {m:M V} (h1:c=true→wp m QV H) (h2:c=false→QV zqm H):wp (gd (.bool c) true m) QV H:=by cases c <;> simp_all
theorem zvr {m:M V} (h1:c=true→QV zqm H) (h2:c=false→wp m QV H):wp (gd (.bool c) false m) QV H:=by cases c <;> simp_all
theorem zpy {x y:V} (h1:c=true→QQ x) (h2:c=false→QQ y):wpO (z8 (.bool c) x y) QQ:=by cases c <;> simp_all
end
theorem zbtx {α:Type} {m:M α} {v:α} (h:∀ H,wp m (fun r H'=>r=v∧H'=H) H):m=ret v:=by
 funext H
 obtain⟨a,H',h1,rfl,rfl⟩:=h H
 exact h1
theorem q_of {Q:V→Heap→Prop} {v v':V} {H:Heap} (h:Q v H) (e:v=v'):Q v' H:=e ▸ h
theorem zbim:zbi [] = .tuple #[]:=rfl
theorem zbin (a b:V):zbi [a,b] = .tuple #[a,b]:=rfl
theorem zbar (a b c:V):zbi [a,b,c] = .tuple #[a,b,c]:=rfl
theorem zbe2 (a b c d:V):zbi [a,b,c,d] = .tuple #[a,b,c,d]:=rfl
theorem zbio (b o:Nat) (H:Heap) (v:V):chk (zz (ptr b o)) H v=zie (zes (H.get b) o) v:=by rw[zb12,zbd]
theorem zbq {S:List Nat} {H0 H:Heap} {x:Option Blk} (h:Keeps S H0 H):Keeps S H0 (H.push x) :=
 ⟨by have:=h.next;simp;omega,fun b hb hn=>by rw[Heap.get_push_lt (by have:=h.next;omega),h.same b hb hn]⟩
theorem zb7 {S:List Nat} {H0 H:Heap} {b:Nat} {x:Option Blk} (h:Keeps S H0 H) (hb:b∈S∨H0.next≤b):Keeps S H0 (H.set b x) :=
 ⟨by have:=h.next;simp;omega,fun c hc hn=>by
  have:c≠b:=fun e=>by subst e;rcases hb with hb | hb;exact hn hb;omega
  rw[Heap.get_set_ne _ _ _ this,h.same c hc hn]⟩
end Go.AM

/- Slices of one-cell elements, somewhere in a block that one owns. -/
namespace Go.AM
def Seg (H:Heap) (v:V) (l:List V):Prop:=(v = .slice none 0 0∧l=[])∨∃ b o c cs,v=slc b o 1 l.length c∧l.length≤c∧H.get b=some (.cells true cs)∧(l=[]∨(o + l.length≤cs.length∧(cs.drop o).take l.length=l))
theorem Seg.nil (H:Heap):Seg H (.slice none 0 0) [] := .inl ⟨rfl,rfl⟩
theorem Seg.keep {S:List Nat} {H H':Heap} {v:V} {l:List V} (h:Seg H v l) (hk:Keeps S H H') (hn:∀ b∈vb v,b ∉ S):Seg H' v l:=by
 rcases h with h | ⟨b,o,c,cs,rfl,hc,hb,hl⟩
 ·exact .inl h
 ·exact .inr ⟨b,o,c,cs,rfl,hc,hk.get hb (hn b (by simp)),hl⟩
theorem Seg.same {H H':Heap} {v:V} {l:List V} (h:Seg H v l) (hs:∀ b∈vb v,H'.get b=H.get b):Seg H' v l:=by
 rcases h with h | ⟨b,o,c,cs,rfl,hc,hb,hl⟩
 ·exact .inl h
 ·exact .inr ⟨b,o,c,cs,rfl,hc,by rw[hs b (by simp)];exact hb,hl⟩
theorem Seg.len {H:Heap} {v:V} {l:List V} (h:Seg H v l):zw v=some (i64 l.length):=by
 rcases h with⟨rfl,rfl⟩ | ⟨b,o,c,cs,rfl,hc,hb,hl⟩ <;> rfl
theorem Seg.lt {H:Heap} {v:V} {l:List V} (h:Seg H v l):∀ b∈vb v,b < H.next:=by
 rcases h with⟨rfl,rfl⟩ | ⟨b,o,c,cs,rfl,hc,hb,hl⟩
 ·simp
 ·simpa using Heap.get_lt hb
theorem Seg.isOne {H:Heap} {v:V} {l:List V} (h:Seg H v l):v.isOne=true:=by
 rcases h with⟨rfl,rfl⟩ | ⟨b,o,c,cs,rfl,_⟩ <;> rfl
theorem Seg.form {H:Heap} {v:V} {l:List V} (h:Seg H v l):∃ a c,v = .slice a l.length c:=by
 rcases h with⟨rfl,rfl⟩ | ⟨b,o,c,cs,rfl,_⟩
 ·exact⟨_,_,rfl⟩
 ·exact⟨_,_,rfl⟩
theorem Seg.cells {H:Heap} {v:V} {l:List V} (h:Seg H v l):zbf H 1 v=some l:=by
 rcases h with⟨rfl,rfl⟩ | ⟨b,o,c,cs,rfl,hc,hb,hl⟩
 ·rfl
 ·simp only[zbf]
  by_cases h0:l.length=0
  ·rw[if_pos h0,List.eq_nil_of_length_eq_zero h0]
  ·rw[if_neg h0]
   rcases hl with rfl | ⟨h1,h2⟩
   ·simp at h0
   ·simp[cellsAt,hb,h1,h2]
theorem Seg.addr {H:Heap} {v:V} {l:List V} (h:Seg H v l) {k:IntKind} {i:Int} (h0:0≤i) (hi:i < l.length):zr 1 v (.int k i)=some (ptr (slB v) (slO v + i.toNat)):=by
 rcases h with⟨rfl,rfl⟩ | ⟨b,o,c,cs,rfl,_⟩
 ·simp at hi;omega
 ·have:=zbap (b:=b) (o:=o) (u:=1) (cap:=c) (size:=1) (k:=k) h0 hi
  rw[Nat.mul_one] at this;exact this
theorem Seg.cell {H:Heap} {v:V} {l:List V} (h:Seg H v l) {i:Nat} (hi:i < l.length):zsg H (ptr (slB v) (slO v + i))=l[i]? := by
 rcases h with⟨rfl,rfl⟩ | ⟨b,o,c,cs,rfl,hc,hb,hl⟩
 ·simp at hi
 ·rcases hl with rfl | ⟨h1,h2⟩
  ·simp at hi
  ·show zsg H (ptr b (o + i))=_
   rw[z7z hb]
   have:((cs.drop o).take l.length)[i]? = l[i]? := by rw[h2]
   rw[List.getElem?_take,if_pos hi,List.getElem?_drop] at this
   exact this
theorem Seg.sub {H:Heap} {v:V} {l:List V} (h:Seg H v l) {lo hi:Option V} {a b:Nat} (hlo:zd1 0 b lo=some a) (hhi:∀ c,l.length≤c→zd1 l.length c hi=some b) (h1:a≤b) (h2:b≤l.length):∃ w,zh6 1 v lo hi=some w∧Seg H w ((l.drop a).take (b - a))∧(∀ x∈vb w,x∈vb v)∧w.isOne=true:=by
 have hlen:((l.drop a).take (b - a)).length=b - a:=by simp;omega
 rcases h with⟨rfl,rfl⟩ | ⟨blk,o,c,cs,rfl,hc,hb,hl⟩
 ·simp only[List.length_nil] at h2 hhi
  have hb0:b=0:=by omega
  subst hb0
  have ha0:a=0:=by omega
  subst ha0
  exact⟨.slice none 0 0,by simp[zh6,hhi 0 (Nat.le_refl _),hlo],.inl ⟨rfl,by simp⟩,fun x hx=>hx,rfl⟩
 ·refine⟨zts blk o 1 a b c 1,?_,?_,?_,?_⟩
  ·simp only[zh6,hhi c hc,hlo]
   simp
  ·unfold zts
   split
   ·rename_i hca
    have:b=a:=by omega
    subst this
    refine .inr ⟨blk,o,c - b,cs,by simp,by simp,hb,.inl (by simp)⟩
   ·refine .inr ⟨blk,o + a * 1,c - a,cs,by rw[hlen],by rw[hlen];omega,hb,?_⟩
    rcases hl with rfl | ⟨q1,q2⟩
    ·left;simp
    ·right
     rw[hlen]
     refine⟨by omega,?_⟩
     conv=>rhs;rw[← q2]
     rw[List.drop_take,List.take_take,List.drop_drop,Nat.mul_one]
     congr 1
     omega
  ·unfold zts;split <;> simp
  ·unfold zts;split <;> rfl
theorem zm {zero:List V} {parts:List (Nat × Nat × V)} (h:zero.all zge=true):build zero parts=(zbu zero parts).map fun cs => .agg cs.toArray:=by
 simp only[build,h,if_true]
 cases zbu zero parts <;> rfl
theorem zb1 (cs:List V):zbu cs []=some cs:=rfl
theorem ze {cs:List V} {off:Nat} {v:V} {rest:List (Nat × Nat × V)} (hv:v.isOne=true) (h:off < cs.length):zbu cs ((off,1,v) :: rest)=zbu (cs.set off v) rest:=by
 have hc:v.cells.toList=[v]:=by rw[z7q hv]
 have hs:v.cells.size=1:=by rw[z7q hv];rfl
 simp only[zbu,hc,hs]
 rw[if_pos (by simp[hv];omega)]
 congr 1
 simp only[splice,List.length_singleton]
 rw[List.set_eq_take_append_cons_drop,if_pos h]
 rfl
theorem zi {cs:List V} {off:Nat} {a:Option Addr} {n c:Nat} {rest:List (Nat × Nat × V)} (h:off < cs.length):zbu cs ((off,1,.slice a n c) :: rest)=zbu (cs.set off (.slice a n c)) rest:=ze rfl h
theorem zj {cs:List V} {off:Nat} {k:IntKind} {n:Int} {rest:List (Nat × Nat × V)} (h:off < cs.length):zbu cs ((off,1,.int k n) :: rest)=zbu (cs.set off (.int k n)) rest:=ze rfl h
theorem zg {cs:List V} {off:Nat} {s:ByteArray} {rest:List (Nat × Nat × V)} (h:off < cs.length):zbu cs ((off,1,.string s) :: rest)=zbu (cs.set off (.string s)) rest:=ze rfl h
theorem zbas {cs:List V} {off:Nat} {b:Bool} {rest:List (Nat × Nat × V)} (h:off < cs.length):zbu cs ((off,1,.bool b) :: rest)=zbu (cs.set off (.bool b)) rest:=ze rfl h
theorem zbe3 {cs:List V} {off:Nat} {a:Option Addr} {rest:List (Nat × Nat × V)} (h:off < cs.length):zbu cs ((off,1,.pointer a) :: rest)=zbu (cs.set off (.pointer a)) rest:=ze rfl h
theorem zbe4 {cs:List V} {off:Nat} {a:Option Nat} {rest:List (Nat × Nat × V)} (h:off < cs.length):zbu cs ((off,1,.map a) :: rest)=zbu (cs.set off (.map a)) rest:=ze rfl h
theorem zk {cs vs:List V} {off n:Nat} {rest:List (Nat × Nat × V)} (hv:vs.all Value.isOne=true) (hn:vs.length=n) (h:off + n≤cs.length):zbu cs ((off,n,.agg vs.toArray) :: rest)=zbu (splice cs off vs) rest:=by
 have hc:(Value.agg vs.toArray).cells.toList=vs:=by simp[Value.cells]
 have hs:(Value.agg vs.toArray).cells.size=n:=by simp[Value.cells,hn]
 simp only[zbu,hc,hs]
 rw[if_pos (by simp[hv];omega)]
theorem z4o (H:Heap):zuy H 1=H.push none:=rfl
theorem zbip (H:Heap):zuy H 2=(H.push none).push none:=rfl
theorem zbat (H:Heap):zdq H []=true:=rfl
theorem zlt {H:Heap} {b:Nat} {bs:List Nat} (h:H.get b=none) (hl:b < H.next):zdq H (b :: bs)=zdq H bs:=by
 have:Nat.blt b H.next=true:=by simpa[Nat.blt_eq] using hl
 simp[zdq,h,this]
theorem ztv {id size len:Nat} {zero cs:List V} {parts:List (Nat × Nat × V)} {H:Heap} {Q:V→Heap→Prop} (h:H.get id=none) (hl:id < H.next) (hz:zero.all zge=true) (hf:zbu zero parts=some cs) (hQ:Q (slc id 0 size len len) (H.set id (some (.cells true cs)))):wp (flt id (zcc size len zero parts)) Q H:=by
 have e:zcc size len zero parts Heap.none0=some (slc 0 0 size len len,Heap.one (.cells true cs)):=by
  simp only[zcc,hz,if_true,hf];rfl
 have:Nat.blt id H.next=true:=by simpa[Nat.blt_eq] using hl
 exact⟨_,_,by simp only[flt,e,Heap.one?_one,h,this,cond_true,zun],hQ⟩
theorem zm9 {id size bytes n c:Nat} {zero:List V} {k k':IntKind} {H:Heap} {Q:V→Heap→Prop} (h:H.get id=none) (hl:id < H.next) (hz:zero.all zge=true) (h1:n≤c) (h2:c≤140737488355328) (h3:bytes * c≤140737488355328) (hQ:Q (slc id 0 size n c) (H.set id (some (.cells true (rep c zero))))):wp (flt id (zul size bytes zero (.int k n) (.int k' c))) Q H:=by
 have e:zul size bytes zero (.int k n) (.int k' c) Heap.none0=some (slc 0 0 size n c,Heap.one (.cells true (rep c zero))):=by
  simp only[zul]
  rw[if_pos ⟨hz,by omega,by omega,by omega,by rw[← Int.natCast_mul];omega⟩,Int.toNat_natCast,Int.toNat_natCast]
  rfl
 have:Nat.blt id H.next=true:=by simpa[Nat.blt_eq] using hl
 exact⟨_,_,by simp only[flt,e,Heap.one?_one,h,this,cond_true,zun],hQ⟩
theorem z0e {α:Type} [Flat α] (x:α) (zero:List V) (hz:zero=Flat.enc x):∀ n,rep n zero=zbj (List.replicate n x)
 | 0=>rfl
 | n + 1=>by rw[rep,z0e x zero hz n,List.replicate_succ,zhb,hz]
end Go.AM

/- Maps that are held: their z7p as lists of keys and values. -/
namespace Go.AM
class KeyE (κ:Type) [DecidableEq κ] where
 kk:KK
 enc:κ→V
 eq:∀ a b,zvv kk (enc a) (enc b)=some (decide (a=b))
 fits:∀ a,zo3 kk (enc a)=true
 solid:∀ a,(enc a).isSolid=true
class ValE (ω:Type) where
 enc:ω→V
 solid:∀ a,(enc a).isSolid=true
theorem zbhc (a b:Int):(a == b)=decide (a=b):=by by_cases h:a=b <;> simp[h]
instance:KeyE Int:=⟨.one .i,i64,fun a b=>by simp only[zvv,eqK,if_true,zbhc],fun _=>rfl,fun _=>rfl⟩
instance:ValE Int:=⟨i64,fun _=>rfl⟩
instance:ValE Bool:=⟨.bool,fun _=>rfl⟩
theorem ki (n:Int):KeyE.enc n=i64 n:=rfl
abbrev pr (a b:Int):V := .agg [i64 a,i64 b].toArray
instance:KeyE (Int × Int):=⟨.agg [.i,.i],fun a=>pr a.1 a.2,fun a b=>by
 simp only[zvv,zpt,zqk,eqK,if_true,zbhc]
 by_cases h:a.1=b.1
 ·by_cases h2:a.2=b.2
  ·rw[decide_eq_true h,decide_eq_true h2,decide_eq_true (show a=b from Prod.ext h h2)]
  ·rw[decide_eq_true h,decide_eq_false h2,decide_eq_false (show ¬ a=b from fun e=>h2 (by rw[e]))]
 ·rw[decide_eq_false h,decide_eq_false (show ¬ a=b from fun e=>h (by rw[e]))],fun _=>rfl,fun _=>rfl⟩
theorem kp (a:Int × Int):KeyE.enc a=pr a.1 a.2:=rfl
section
variable {κ ω:Type} [DecidableEq κ] [KeyE κ] [ValE ω]
def zlm (e:κ × ω):V × V:=(KeyE.enc e.1,ValE.enc e.2)
def aidx (k:κ):List (κ × ω)→Option Nat
 | []=>none
 | e :: es=>if k=e.1 then some 0 else (aidx k es).map (· + 1)
def zjz (es:List (κ × ω)) (k:κ):Option ω:=match es with
 | []=>none
 | e :: es=>if k=e.1 then some e.2 else zjz es k
def zif (es:List (κ × ω)) (k:κ) (v:ω):List (κ × ω):=match es with
 | []=>[(k,v)]
 | e :: es=>if k=e.1 then (k,v) :: es else e :: zif es k v
def adel (es:List (κ × ω)) (k:κ):List (κ × ω):=match es with
 | []=>[]
 | e :: es=>if k=e.1 then es else e :: adel es k
theorem zbe6 (k:κ):∀ es:List (κ × ω),zjr (KeyE.kk κ) (KeyE.enc k) (es.map zlm)=some (aidx k es)
 | []=>rfl
 | e :: es=>by
  have ih:=zbe6 k es
  simp only[List.map_cons,zjr,aidx]
  rw[show zvv (KeyE.kk κ) (KeyE.enc k) (zlm e).1=some (decide (k=e.1)) from KeyE.eq k e.1]
  by_cases h:k=e.1
  ·simp[h]
  ·rw[decide_eq_false h,if_neg h,ih]
   cases aidx k es <;> rfl
theorem zbe7 {k:κ}:∀ {es:List (κ × ω)},aidx k es=none→zjz es k=none∧(∀ v,zif es k v=es ++ [(k,v)])∧adel es k=es
 | [],_=>⟨rfl,fun _=>rfl,rfl⟩
 | e :: es,h=>by
  simp only[aidx] at h
  split at h
  ·cases h
  ·rename_i hk
   have h':aidx k es=none:=by cases hq:aidx k es <;> simp_all
   obtain⟨a,b,c⟩:=zbe7 h'
   simp[zjz,zif,adel,hk,a,b,c]
theorem zbe8 {k:κ}:∀ {es:List (κ × ω)} {i:Nat},aidx k es=some i→i < es.length∧(∃ v,es[i]? = some (k,v)∧zjz es k=some v)∧(∀ v,zif es k v=es.set i (k,v))∧adel es k=es.eraseIdx i
 | e :: es,i,h=>by
  simp only[aidx] at h
  split at h
  ·rename_i hk
   cases h;subst hk
   exact⟨by simp,⟨e.2,by simp,by simp[zjz]⟩,fun v=>by simp[zif],by simp[adel]⟩
  ·rename_i hk
   cases hq:aidx k es with
   | none=>rw[hq] at h;cases h
   | some j =>
    rw[hq] at h;cases h
    obtain⟨a,⟨v,b1,b2⟩,c,d⟩:=zbe8 hq
    exact⟨by simpa using a,⟨v,by simpa using b1,by simp[zjz,hk,b2]⟩,fun v=>by simp[zif,hk,c],by simp[adel,hk,d]⟩
theorem zbe9 (k k':κ) (v:ω):∀ es:List (κ × ω),zjz (zif es k v) k'=if k'=k then some v else zjz es k'
 | []=>by simp[zif,zjz]
 | e :: es=>by
  simp only[zif]
  split
  ·rename_i h;subst h
   simp only[zjz]
   split <;> rfl
  ·rename_i h
   simp only[zjz,zbe9 k k' v es]
   by_cases h2:k'=e.1
   ·subst h2;rw[if_pos rfl,if_pos rfl,if_neg (fun q=>h q.symm)]
   ·rw[if_neg h2,if_neg h2]
theorem zbql {k:κ} {v:ω} {x:κ × ω}:∀ {l:List (κ × ω)},x∈zif l k v→x=(k,v)∨x∈l
 | [],h=>by simp[zif] at h;exact .inl h
 | y :: l,h=>by
  simp only[zif] at h
  split at h
  ·rcases List.mem_cons.1 h with q | q
   ·exact .inl q
   ·right;simp[q]
  ·rcases List.mem_cons.1 h with q | q
   ·right;simp[q]
   ·rcases zbql q with r | r
    ·exact .inl r
    ·right;simp[r]
def MapR (H:Heap) (m:Nat) (es:List (κ × ω)):Prop:=H.get m=some (.map true (es.map zlm))
def zyd (x:Option Blk) (kk:KK) (zero:V) (ok:Bool) (k:V):Option V:=match x with
 | some (.map _ es)=>if (zo3 kk k && zge zero)=true then (match zjr kk k es with
  | some (some i)=>match es[i]? with | some e=>some (if ok then .tuple #[e.2,.bool true] else e.2) | none=>none
  | some none=>some (if ok then .tuple #[zero,.bool false] else zero)
  | none=>none) else none
 | _=>none
@[congr] theorem zb4f {x x':Option Blk} {kk:KK} {zero:V} {ok:Bool} {k:V} (h:x=x'):zyd x kk zero ok k=zyd x' kk zero ok k:=by rw[h]
theorem zhh (H:Heap) (m:Nat) (kk:KK) (zero:V) (ok:Bool) (k:V) {Q:V→Heap→Prop}:wp (lookup kk zero ok (.map (some m)) k) Q H↔wpO (zyd (H.get m) kk zero ok k) fun v=>Q v H:=by
 have e:lookup kk zero ok (.map (some m)) k H=(zyd (H.get m) kk zero ok k).map fun v=>(v,H):=by
  simp only[lookup,zyd,z7p]
  generalize H.get m=x
  by_cases hc:(zo3 kk k && zge zero)=true
  ·rw[if_pos hc]
   cases x with
   | none=>rfl
   | some x =>
    cases x with
    | map rw es =>
     simp only
     rw[if_pos hc]
     cases zjr kk k es with
     | none=>rfl
     | some o=>cases o with
      | none=>rfl
      | some i=>simp only;cases es[i]? <;> rfl
    | cells rw cs=>rfl
    | siter s p=>rfl
    | bld t u b n=>rfl
    | buf t cs=>rfl
  ·rw[if_neg hc]
   cases x with
   | none=>rfl
   | some x =>
    cases x with
    | map rw es=>simp only;rw[if_neg hc];rfl
    | cells rw cs=>rfl
    | siter s p=>rfl
    | bld t u b n=>rfl
    | buf t cs=>rfl
 unfold wp wpO
 rw[e]
 cases zyd (H.get m) kk zero ok k with
 | none=>simp
 | some v =>
  constructor
  ·rintro⟨a,H',h1,h2⟩;cases h1;exact⟨_,rfl,h2⟩
  ·rintro⟨a,h1,h2⟩;cases h1;exact⟨_,_,rfl,h2⟩
theorem z70 (rw_:Bool) (es:List (κ × ω)) (zero:V) (hz:zge zero=true) (k:κ):zyd (some (.map rw_ (es.map zlm))) (KeyE.kk κ) zero false (KeyE.enc k)=some ((zjz es k).elim zero ValE.enc):=by
 have hc:(zo3 (KeyE.kk κ) (KeyE.enc k) && zge zero)=true:=by rw[KeyE.fits,hz];rfl
 simp only[zyd,hc,if_true,zbe6]
 cases ha:aidx k es with
 | none=>simp[(zbe7 ha).1]
 | some i =>
  obtain⟨h1,⟨v,h2,h3⟩,_⟩:=zbe8 ha
  simp[h2,h3,zlm]
def setG (x:Option Blk) (kk:KK) (k v:V) (K:Option Blk→Prop):Prop:=match x with
 | some (.map true es)=>(zo3 kk k && k.isSolid && v.isSolid)=true∧match zjr kk k es with
  | some (some i)=>K (some (.map true (es.set i (k,v))))
  | some none=>K (some (.map true (es ++ [(k,v)])))
  | none=>False
 | _=>False
@[congr] theorem zb5n {x x':Option Blk} {kk:KK} {k v:V} {K:Option Blk→Prop} (h:x=x'):setG x kk k v K=setG x' kk k v K:=by rw[h]
theorem zv6 (H:Heap) (m:Nat) (kk:KK) (k v:V) {Q:V→Heap→Prop}:wp (zgm kk (.map (some m)) k v) Q H↔setG (H.get m) kk k v fun y=>Q undef (H.set m y):=by
 unfold wp setG zgm
 cases hc:(zo3 kk k && k.isSolid && v.isSolid) with
 | false=>simp;split <;> simp_all
 | true =>
  simp only[if_true]
  cases hg:H.get m with
  | none=>simp
  | some x =>
   cases x with
   | map rw es =>
    cases rw with
    | false=>simp
    | true =>
     simp only[true_and]
     cases zjr kk k es with
     | none=>simp
     | some o=>cases o with
      | none =>
       constructor
       ·rintro⟨a,H',h1,h2⟩;cases h1;exact h2
       ·intro h;exact⟨_,_,rfl,h⟩
      | some i =>
       constructor
       ·rintro⟨a,H',h1,h2⟩;cases h1;exact h2
       ·intro h;exact⟨_,_,rfl,h⟩
   | cells rw cs=>simp
   | siter s p=>simp
   | bld t u b n=>simp
   | buf t cs=>simp
theorem zbcn (es:List (κ × ω)) (k:κ) (v:ω) (K:Option Blk→Prop):setG (some (.map true (es.map zlm))) (KeyE.kk κ) (KeyE.enc k) (ValE.enc v) K↔K (some (.map true ((zif es k v).map zlm))):=by
 have hc:(zo3 (KeyE.kk κ) (KeyE.enc k) && (KeyE.enc k:V).isSolid && (ValE.enc v:V).isSolid)=true:=by rw[KeyE.fits,KeyE.solid,ValE.solid];rfl
 simp only[setG,hc,true_and,zbe6]
 cases ha:aidx k es with
 | none=>rw[(zbe7 ha).2.1 v];simp[zlm]
 | some i=>rw[(zbe8 ha).2.2.1 v];simp[List.map_set,zlm]
theorem MapR.keep {S:List Nat} {H H':Heap} {m:Nat} {es:List (κ × ω)} (h:MapR H m es) (hk:Keeps S H H') (hm:m ∉ S):MapR H' m es:=hk.get h hm
theorem MapR.lt {H:Heap} {m:Nat} {es:List (κ × ω)} (h:MapR H m es):m < H.next:=Heap.get_lt h
end
end Go.AM

/- Slices that are copied; makes that float. -/
namespace Go.AM
theorem zbmm {α:Type} [Flat α] {H:Heap} {b n bytes:Nat} {xv:V} {xs:List α} {Q:V→Heap→Prop} (hs:Flat.size α=n) (hb:H.get b=some (.cells true [])) (hx:Sl H xv xs) (hn:xs.length * n≤1000000) (hl:xs.length≤1000000) (hby:bytes≤1000) (hQ:∀ w H',(w=slc b 0 n 0 0∧xs=[]∧H'=H∨w=slc H.next 0 n xs.length xs.length∧H'.get H.next=some (.cells true (zbj xs))∧Keeps [b] H H'∧xs≠[]∧H'.next=H.next + 1)→Q w H'):wp (zd0 n bytes (slc b 0 n 0 0) xv) Q H:=by
 subst hs
 by_cases h0:xs=[]
 ·subst h0
  refine⟨slc b 0 (Flat.size α) 0 0,H,?_,hQ _ _ (.inl ⟨rfl,rfl,rfl⟩)⟩
  rcases hx with⟨rfl,_⟩ | ⟨bb,o,u,c,rfl,_⟩ <;> rfl
 ·have hne:xs.length≠0:=fun h=>h0 (List.eq_nil_of_length_eq_zero h)
  have hc:zbf H (Flat.size α) xv=some (zbj xs):=by
   rcases hx with⟨rfl,e⟩ | ⟨bb,o,u,c,rfl,hc,_,hl2,_⟩
   ·exact absurd e h0
   ·rcases hl2 with e | ⟨rw,cs,hg,q1,q2⟩
    ·exact absurd e h0
    ·simp only[zbf,hne,if_false,cellsAt,hg]
     rw[if_pos q1,q2]
  have hf:∃ a c,xv = .slice a xs.length c:=by
   rcases hx with⟨rfl,e⟩ | ⟨bb,o,u,c,rfl,_⟩
   ·exact absurd e h0
   ·exact⟨_,_,rfl⟩
  obtain⟨a,c,rfl⟩:=hf
  have hlt:=Heap.get_lt hb
  have hone:=zbcm xs
  have hel:=zb6 xs
  have hcs0:zbf H (Flat.size α) (slc b 0 (Flat.size α) 0 0)=some []:=rfl
  have hm:xs.length * bytes≤1000000 * 1000:=Nat.mul_le_mul hl hby
  refine⟨slc H.next 0 (Flat.size α) xs.length xs.length,(H.set b none).push (some (.cells true (zbj xs))),?_,hQ _ _ (.inr ⟨rfl,?_,?_,h0,by simp⟩)⟩
  ·simp only[zd0,hc,zvu,hne,if_false,hcs0,zsp,hb,if_true]
   rw[if_pos ⟨by rw[Nat.zero_add];omega,by omega,hone,hel⟩]
   simp
  ·have:=Heap.get_push_self (H.set b none) (some (.cells true (zbj xs)))
   simpa using this
  ·exact⟨by simp,fun c hc hn=>by rw[Heap.get_push_lt (by simpa using hc),Heap.get_set_ne _ _ _ (by simpa using hn)]⟩
theorem z1k {id:Nat} {H:Heap} {Q:V→Heap→Prop} (h:H.get id=none) (hl:id < H.next) (hQ:Q (.map (some id)) (H.set id (some (.map true [])))):wp (flt id zvw) Q H:=by
 have e:zvw Heap.none0=some (.map (some 0),Heap.one (.map true [])):=rfl
 have:Nat.blt id H.next=true:=by simpa[Nat.blt_eq] using hl
 exact⟨_,_,by simp only[flt,e,Heap.one?_one,h,this,cond_true,zun],hQ⟩
theorem zbiq (n:Nat) (H:Heap):Keeps [] H (zuy H n):=⟨by rw[(zvq n H).2];omega,fun b _ _=>(zvq n H).1 b⟩
theorem zbmn {n:Nat} {H:Heap} {b:Nat} (h:H.next≤b):(zuy H n).get b=none:=by
 rw[(zvq n H).1]
 cases hg:H.get b with
 | none=>rfl
 | some x=>have:=Heap.get_lt hg;omega
theorem zbmo (n:Nat) (H:Heap):(zuy H n).next=H.next + n:=(zvq n H).2
theorem zpb {H:Heap}:∀ {l:List Nat},(∀ b∈l,H.get b=none∧b < H.next)→zdq H l=true
 | [],_=>rfl
 | b :: l,h=>by
  rw[zlt (h b (by simp)).1 (h b (by simp)).2]
  exact zpb fun c hc=>h c (by simp[hc])
end Go.AM

/- Own slices of flat things. -/
namespace Go.AM
section
variable {α:Type} [Flat α]
def zh7 (H:Heap) (v:V) (xs:List α):Prop:=(v = .slice none 0 0∧xs=[])∨∃ b,v=slc b 0 (Flat.size α) xs.length xs.length∧H.get b=some (.cells true (zbj xs))
theorem zh7.nil (H:Heap):zh7 H (.slice none 0 0) ([]:List α) := .inl ⟨rfl,rfl⟩
theorem zh7.keep {S:List Nat} {H H':Heap} {v:V} {l:List α} (h:zh7 H v l) (hk:Keeps S H H') (hn:∀ b∈vb v,b ∉ S):zh7 H' v l:=by
 rcases h with h | ⟨b,rfl,hb⟩
 ·exact .inl h
 ·exact .inr ⟨b,rfl,hk.get hb (hn b (by simp))⟩
theorem zh7.keep0 {H H':Heap} {v:V} {l:List α} (h:zh7 H v l) (hk:Keeps [] H H'):zh7 H' v l:=h.keep hk (by simp)
theorem zh7.len {H:Heap} {v:V} {l:List α} (h:zh7 H v l):zw v=some (i64 l.length):=by
 rcases h with⟨rfl,rfl⟩ | ⟨b,rfl,_⟩ <;> rfl
theorem zh7.lt {H:Heap} {v:V} {l:List α} (h:zh7 H v l):∀ b∈vb v,b < H.next:=by
 rcases h with⟨rfl,rfl⟩ | ⟨b,rfl,hb⟩
 ·simp
 ·simpa using Heap.get_lt hb
theorem zh7.isOne {H:Heap} {v:V} {l:List α} (h:zh7 H v l):v.isOne=true:=by
 rcases h with⟨rfl,rfl⟩ | ⟨b,rfl,_⟩ <;> rfl
theorem zh7.sl {H:Heap} {v:V} {l:List α} (h:zh7 H v l):Sl H v l:=by
 rcases h with⟨rfl,rfl⟩ | ⟨b,rfl,hb⟩
 ·exact Sl.nil H
 ·refine .inr ⟨b,0,Flat.size α,l.length,rfl,Nat.le_refl _,Heap.get_lt hb,.inr ⟨true,zbj l,hb,by rw[zb6];omega,?_⟩,.inr rfl⟩
  rw[List.drop_zero,List.take_of_length_le (by rw[zb6];exact Nat.le_refl _)]
theorem z0f {H:Heap} {xs:List α} {n m:Nat} (hs:Flat.size α=n) (hm:xs.length=m):zh7 (H.push (some (.cells true (zbj xs)))) (slc H.next 0 n m m) xs:=by
 subst hs hm;exact .inr ⟨_,rfl,Heap.get_push_self _ _⟩
theorem zbau {v:V} {xs ys:List α} {n m bytes:Nat} {new:Option (List V)} {H:Heap} {Q:V→Heap→Prop} (hs:Flat.size α=n) (hv:zh7 H v xs) (hm:ys.length=m) (hnew:ys≠[]→new=some (zbj ys)) (hb:(xs.length + m) * bytes≤35184372088832) (hb2:xs.length + m≤35184372088832)
  (hQ:∀ w H',zh7 H' w (xs ++ ys)→Keeps (vb v) H H'→(∀ b∈vb w,b∈vb v∨H.next≤b)→Q w H'):wp (zvu n bytes v m new) Q H:=by
 subst hs hm
 by_cases h0:ys=[]
 ·subst h0
  have hf:∃ x len cap,v = .slice x len cap:=by
   rcases hv with⟨rfl,_⟩ | ⟨b,rfl,_⟩
   ·exact⟨_,_,_,rfl⟩
   ·exact⟨_,_,_,rfl⟩
  obtain⟨x,len,cap,rfl⟩:=hf
  exact⟨_,H,rfl,hQ _ _ (by rw[List.append_nil];exact hv) (Keeps.refl _ _) (fun b hb => .inl hb)⟩
 have hne:ys.length≠0:=fun h=>h0 (List.eq_nil_of_length_eq_zero h)
 rw[hnew h0]
 have hone:=zbcm ys
 have hel:=zb6 ys
 rcases hv with⟨rfl,rfl⟩ | ⟨b,rfl,hg⟩
 ·have e1:zbf H (Flat.size α) (.slice none 0 0)=some []:=rfl
  have e2:zsp H (Flat.size α) (.slice none 0 0)=some H:=rfl
  refine⟨slc H.next 0 (Flat.size α) ys.length ys.length,H.push (some (.cells true (zbj ys))),?_,hQ _ _ ?_ (Keeps.push _ _ _) (fun b hb => .inr (by simp at hb;omega))⟩
  ·simp only[List.length_nil,Nat.zero_add] at hb hb2
   simp only[zvu,hne,if_false,e1,e2]
   rw[if_pos ⟨by rw[Nat.zero_add];exact hb,by omega,hone,hel⟩]
   simp
  ·exact z0f rfl (by simp)
 ·have hcs:zbf H (Flat.size α) (slc b 0 (Flat.size α) xs.length xs.length)=some (zbj xs):=by
   simp only[zbf]
   split
   ·rename_i h1;rw[List.eq_nil_of_length_eq_zero h1];rfl
   ·have e:(zbj xs).length=xs.length * Flat.size α:=zb6 xs
    simp only[cellsAt,hg,Nat.zero_add,List.drop_zero]
    rw[if_pos (by omega),List.take_of_length_le (by omega)]
  refine⟨slc H.next 0 (Flat.size α) (xs.length + ys.length) (xs.length + ys.length),(H.set b none).push (some (.cells true (zbj xs ++ zbj ys))),?_,hQ _ _ ?_ ?_ (fun c hc => .inr (by simp at hc;omega))⟩
  ·simp only[zvu,hne,if_false,hcs,zsp,hg,if_true]
   rw[if_pos ⟨hb,hb2,hone,hel⟩]
   simp
  ·rw[← zbf5]
   have:=z0f (H:=H.set b none) (xs:=xs ++ ys) (n:=Flat.size α) (m:=xs.length + ys.length) rfl (by simp)
   simpa using this
  ·exact⟨by simp,fun c hc hn=>by rw[Heap.get_push_lt (by simpa using hc),Heap.get_set_ne _ _ _ (by simpa using hn)]⟩
theorem zbzs {H:Heap} {v:V} {xs:List α} {n:Nat} (hs:Flat.size α=n) (h:Sl H v xs) (hne:xs≠[]):∃ a c,v = .slice a xs.length c∧zbf H n v=some (zbj xs):=by
 subst hs
 rcases h with⟨rfl,e⟩ | ⟨bb,o,u,c,rfl,hc,_,hl2,_⟩
 ·exact absurd e hne
 ·rcases hl2 with e | ⟨rw,cs,hg,q1,q2⟩
  ·exact absurd e hne
  ·refine⟨_,_,rfl,?_⟩
   have hn:xs.length≠0:=fun h=>hne (List.eq_nil_of_length_eq_zero h)
   simp only[zbf,hn,if_false,cellsAt,hg]
   rw[if_pos q1,q2]
theorem z71 {v x:V} {xs ys:List α} {n bytes:Nat} {H:Heap} {Q:V→Heap→Prop} (hs:Flat.size α=n) (hv:zh7 H v xs) (hx:Sl H x ys) (hb:(xs.length + ys.length) * bytes≤35184372088832) (hb2:xs.length + ys.length≤35184372088832)
  (hQ:∀ w H',zh7 H' w (xs ++ ys)→Keeps (vb v) H H'→(∀ b∈vb w,b∈vb v∨H.next≤b)→Q w H'):wp (zd0 n bytes v x) Q H:=by
 by_cases h0:ys=[]
 ·subst h0
  have hf:∃ a c,x = .slice a 0 c:=by
   rcases hx with⟨rfl,_⟩ | ⟨bb,o,u,c,rfl,_⟩
   ·exact⟨_,_,rfl⟩
   ·exact⟨_,_,rfl⟩
  obtain⟨a,c,rfl⟩:=hf
  exact zbau (ys:=([]:List α)) hs hv rfl (fun h=>absurd rfl h) hb hb2 hQ
 ·obtain⟨a,c,rfl,hc⟩:=zbzs hs hx h0
  exact zbau hs hv rfl (fun _=>hc) hb hb2 hQ
theorem zbmp {v:V} {xs ys:List α} {n m bytes:Nat} {zero:List V} {parts:List (Nat × Nat × V)} {H:Heap} {Q:V→Heap→Prop} (hs:Flat.size α=n) (hv:zh7 H v xs) (hz:zero.all zge=true) (hf:zbu zero parts=some (zbj ys)) (hm:ys.length=m) (hb:(xs.length + m) * bytes≤35184372088832) (hb2:xs.length + m≤35184372088832)
  (hQ:∀ w H',zh7 H' w (xs ++ ys)→Keeps (vb v) H H'→(∀ b∈vb w,b∈vb v∨H.next≤b)→Q w H'):wp (zcc n m zero parts) (fun x H1=>wp (zd0 n bytes v x) Q H1) H:=by
 subst hm
 refine (zdf hz hf).mpr ?_
 have hk:=Keeps.push [] H (some (.cells true (zbj ys)))
 refine z71 hs (hv.keep0 hk) (z0f hs rfl).sl hb hb2 fun w H' h1 h2 h3=>hQ w H' h1 ?_ fun b hb=>(h3 b hb).imp id fun q=>by simp at q;omega
 exact⟨by have:=h2.next;simp at this;omega,fun c hc hn=>by rw[h2.same c (by simp;omega) hn,Heap.get_push_lt hc]⟩
end
theorem zbir (l:List (BitVec 8)):zbj l=l.map B:=by
 induction l with
 | nil=>rfl
 | cons x l ih=>rw[zhb,ih];rfl
theorem zbxc {v:V} {xs:List (BitVec 8)} {s:ByteArray} {H:Heap} {Q:V→Heap→Prop} (hv:zh7 H v xs) (hb:xs.length + s.size≤35184372088832)
  (hQ:∀ w H',zh7 H' w (xs ++ bv s)→Keeps (vb v) H H'→(∀ b∈vb w,b∈vb v∨H.next≤b)→Q w H'):wp (appS v (.string s)) Q H:=by
 refine zbau (ys:=bv s) (n:=1) rfl hv (zci s) (fun _=>?_) (by omega) hb hQ
 rw[zbw8,zbir]
theorem zbis {v:V} {l:List (BitVec 8)} {H:Heap} {Q:V→Heap→Prop} (hv:zh7 H v l) (hQ:Q (.string (sv l)) H):wp (b2s v) Q H:=by
 refine zbnr (l:=l) ?_ hQ
 rw[← zbir]
 rcases hv with⟨rfl,rfl⟩ | ⟨b,rfl,hg⟩
 ·exact .inl ⟨rfl,rfl⟩
 ·refine .inr ⟨b,?_,hg⟩
  have e:(zbj l).length=l.length:=by rw[zb6];exact Nat.mul_one _
  rw[e];rfl
end Go.AM

/- The rules that a walk always has, as lemmas. -/
namespace Go.AM
theorem zbxd (cs:List V) (o:Nat) (l:List V):splice cs o l=cs.take o ++ (l ++ cs.drop (o + l.length)):=rfl
def Z1:=And.intro (And.intro (And.intro (And.intro (And.intro (And.intro @zb1s @zb1t) (And.intro @z7 @zbg9)) (And.intro (And.intro @zbcj @wp_ret) (And.intro @zb46 @zb47))) (And.intro (And.intro (And.intro @zb48 @zbw2) (And.intro @zbw3 @zbw4)) (And.intro (And.intro @zbzc @zbzd) (And.intro @zbze (And.intro @zb17 @zb18))))) (And.intro (And.intro (And.intro (And.intro @zbzj @zbzk) (And.intro @gd_t @gd_f)) (And.intro (And.intro @zb7c @zb7d) (And.intro @zb1r @zb7a))) (And.intro (And.intro (And.intro @zb7b @zb5d) (And.intro @zb5e @zb5f)) (And.intro (And.intro @zb5g @zb14) (And.intro @zb15 (And.intro @zb7e @zb7f)))))) (And.intro (And.intro (And.intro (And.intro (And.intro @zb16 @zbw7) (And.intro @zbtu @zbtv)) (And.intro (And.intro @zbqi @zbw6) (And.intro @zbw5 @Nat.zero_add))) (And.intro (And.intro (And.intro @Nat.add_zero @zb49) (And.intro @zbtt @zbnp)) (And.intro (And.intro @zbzh @zbve) (And.intro @zb1v (And.intro @zb1w @i64_in))))) (And.intro (And.intro (And.intro (And.intro @zb19 @zb2a) (And.intro @zb1x @zb1y)) (And.intro (And.intro @zb1z @zb10) (And.intro @zb2b (And.intro @zb2c @if_true.{1})))) (And.intro (And.intro (And.intro @zb1q @zbzb) (And.intro @zb1p @zb2j)) (And.intro (And.intro @zb2k @zbzm) (And.intro @zbzn (And.intro @List.getElem?_cons_zero.{0} @List.getElem?_cons_succ.{0}))))))
def ZA:=And.intro (And.intro (And.intro (And.intro (And.intro @Z1 (And.intro @zbd @z4n)) (And.intro (And.intro @zbzq @eq_self.{1}) (And.intro @true_and @zbha))) (And.intro (And.intro (And.intro @zy2 @zbih) (And.intro @zb0 @Heap.get_push_eq)) (And.intro (And.intro @Heap.get_push_lt @Heap.get_set_eq) (And.intro @Heap.get_set_ne' @Heap.next_push')))) (And.intro (And.intro (And.intro (And.intro @Heap.next_set' @Heap.set_push_lt) (And.intro @Heap.set_push_eq @Heap.set_set)) (And.intro (And.intro @zbii @zbij) (And.intro @z0c @zbim))) (And.intro (And.intro (And.intro @zbin @zbar) (And.intro @zbe2 @zbio)) (And.intro (And.intro @zbib @zbey) (And.intro @zbic @zbid))))) (And.intro (And.intro (And.intro (And.intro (And.intro @zbie @zbif) (And.intro @List.set_cons_zero.{0} @List.set_cons_succ.{0})) (And.intro (And.intro @List.length_cons.{0} @List.length_nil.{0}) (And.intro @List.drop_succ_cons.{0} @List.drop_zero.{0}))) (And.intro (And.intro (And.intro @List.take_succ_cons.{0} @List.take_zero.{0}) (And.intro @List.nil_append.{0} @List.cons_append.{0})) (And.intro (And.intro @zbxd @zbev) (And.intro @zbew @zbaq)))) (And.intro (And.intro (And.intro (And.intro @z4k @zy1) (And.intro @zbex @zbik)) (And.intro (And.intro @zbe1 @zbtw) (And.intro @zbns @zbil))) (And.intro (And.intro (And.intro @zb1 @Option.map_some.{0,0}) (And.intro @z4o @zbip)) (And.intro (And.intro @zbat @zbas) (And.intro @zbe3 @zbe4)))))
def ZB:=And.intro (And.intro (And.intro @ZA @zbz) (And.intro @zo (And.intro @zn @zm))) (And.intro (And.intro @zk @zi) (And.intro @zj (And.intro @zg @ze)))
theorem Z3:type_of% (And.intro @Heap.next_push' @Heap.next_set'):=And.intro @Heap.next_push' @Heap.next_set'
theorem ZD {p:Prop} (h:p:=by first | omega | (simp only[Z3];omega) | (simp;done) | assumption | decide | (apply not_not_intro;assumption)):p:=h
end Go.AM

/- Slices among the cells of other things. -/
namespace Go.AM
structure In (α:Type) where
 v:V
 xs:List α
 one:v.isOne=true
instance {α:Type}:Inhabited (In α):=⟨⟨.slice none 0 0,[],rfl⟩⟩
instance {α:Type}:Flat (In α):=⟨1,fun a=>[a.v],fun _=>rfl,fun a=>by simp[a.one],by decide⟩
structure Sl2 {α:Type} [Flat α] (H:Heap) (v:V) (xs:List (In α)):Prop where
 out:Sl H v xs
 inn:∀ x∈xs,Sl H x.v x.xs
theorem Sl2.keep0 {α:Type} [Flat α] {H H':Heap} {v:V} {xs:List (In α)} (h:Sl2 H v xs) (hk:Keeps [] H H'):Sl2 H' v xs:=⟨h.out.keep0 hk,fun x hx=>(h.inn x hx).keep0 hk⟩
theorem Sl2.at {α:Type} [Flat α] {H:Heap} {v:V} {xs:List (In α)} (h:Sl2 H v xs) {i:Nat} (hi:i < xs.length):Sl H (xs.getD i default).v (xs.getD i default).xs:=by
 rw[List.getD_eq_getElem?_getD,List.getElem?_eq_getElem hi]
 exact h.inn _ (List.getElem_mem hi)
theorem Sl2.get {α:Type} [Flat α] {H:Heap} {v:V} {xs:List (In α)} (h:Sl2 H v xs) {i:Nat} (hi:i < xs.length):zr 1 v (i64 i)=some (ptr (slB v) (slO v + i))∧zsg H (ptr (slB v) (slO v + i))=some (xs.getD i default).v:=by
 have h1:=h.out.addr1 rfl (k := .i64) (i:=i) (by omega) (by omega)
 rw[Int.toNat_natCast] at h1
 exact⟨h1,by rw[h.out.cell1 rfl hi default];rfl⟩
end Go.AM
