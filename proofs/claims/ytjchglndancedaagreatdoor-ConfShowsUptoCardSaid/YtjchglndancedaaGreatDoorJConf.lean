import Derived.Test.YtjchglndancedaaGreatDoorShelfAm
import Derived.Test.YtjchglndancedaaGreatDoorCfL
import Derived.Lib.SplitLaws
import Derived.Lib.AtoiErrMem
import Derived.Test.YtjchglndancedaaGreatDoorCfZ
import Derived.Test.YtjchglndancedaaGreatDoorAmOpenN
import Derived.Test.YtjchglndancedaaGreatDoorRows
import Derived.WalkKit
import Derived.ProofKit
import Derived.Deep.DeepWitnessRowRef
import Derived.LaidHandle
import Derived.Lib.LaidTab
import Derived.Shelf.Vars
set_option linter.all false
/- conf: strings.Split, strconv.Atoi, strings.IndexByte, by the contracts off the kit's shelf -/
set_option maxHeartbeats 4000000
namespace Go.AM.Cap
open Go.AM Go.Proofs Go.RowKit
section
variable {N:Nat} {w₀ w w':World} {ρ:Ren} {H:Heap}
theorem zbfs (h:Rel N w₀ ρ H w) (hb:Below w.heap.size w w'):Rel N w₀ ρ H w':=by
 have hold:∀ k,k < w.heap.size→w'.heap[k]? = w.heap[k]? := hb.block
 have hbig:=h.big
 have hsz:=hb.size
 refine⟨h.below.trans ⟨hb.os,hb.tape,hb.output,hb.size,fun k hk=>hold k (by omega)⟩,by omega,h.dom,h.base,fun b x hx=>?_,h.inj⟩
 obtain⟨L,hL,hr⟩:=h.blk b x hx
 exact⟨L,hL,hr.mono (Ren.le.refl _) (hold _ (h.lt hx hL))⟩
theorem zbft (hb:Below w.heap.size w w'):Ext ρ H w ρ H w' :=
 ⟨Ren.le.refl _,(Ext.refl ρ H w).same,(Ext.refl ρ H w).next,⟨hb.size,fun c hc _=>hb.block c hc⟩,(Ext.refl ρ H w).old⟩
theorem zbj7:∀ l:List ByteArray,LRel ρ (l.map Value.string) (l.map Value.string)
 | [] => .nil
 | n :: l => .cons (.string n) (zbj7 l)
theorem zbx1 (h:Rel N w₀ ρ H w) (hb:Below w.heap.size w w') {g:Nat} {e:TypeId} {l:List ByteArray} (hg:w.heap.size≤g) (hc:w'.heap[g]? = some (.cells (l.map Value.string).toArray e (0,0))) :
  Rel N w₀ (ρ.add H.next ⟨g,0,l.length⟩) (H.push (some (.cells true (l.map Value.string)))) w'∧Ext ρ H w (ρ.add H.next ⟨g,0,l.length⟩) (H.push (some (.cells true (l.map Value.string)))) w':=by
 have h':=zbfs h hb
 have hno:ρ H.next=none:=h.dom _ (Nat.le_refl _)
 have hle:=Ren.le_add ⟨g,0,l.length⟩ hno
 have hold2:∀ b x,(H.push (some (.cells true (l.map Value.string)))).get b=some x→(b=H.next∧x = .cells true (l.map Value.string))∨(H.get b=some x∧b≠H.next):=fun b x hx=>by
  rw[Heap.get_push] at hx
  split at hx
  ·rename_i e;cases hx;exact .inl ⟨e,rfl⟩
  ·exact .inr ⟨hx,by assumption⟩
 have hself:(ρ.add H.next ⟨g,0,l.length⟩) H.next=some ⟨g,0,l.length⟩:=by unfold Ren.add;rw[if_pos rfl]
 have hbig:=h.big
 refine⟨⟨h'.below,h'.big,fun b hb=>?_,fun b hb=>by obtain⟨s,hs⟩:=h.base b hb;exact⟨s,hle _ _ hs⟩,fun b x hx=>?_,fun b b' x x' L L' hx hx' hne hL hL'=>?_⟩,?_⟩
 ·rw[Heap.next_push] at hb
  unfold Ren.add;rw[if_neg (by omega)];exact h.dom b (by omega)
 ·rcases hold2 b x hx with⟨rfl,rfl⟩ | ⟨h1,h2⟩
  ·refine⟨_,hself,(l.map Value.string).toArray,e,(0,0),hc,by simp,⟨fun _=>⟨by show N≤g;omega,fun i _=>by show ¬ (0≤i∧i < 0);omega⟩,fun q=>by cases q⟩,by simp,?_⟩
   simp only[List.drop_zero]
   rw[List.take_of_length_le (Nat.le_refl _)]
   exact zbj7 l
  ·obtain⟨L,hL,hr⟩:=h'.blk b x h1
   exact⟨L,hle _ _ hL,hr.mono hle rfl⟩
 ·have key:∀ {b x L},H.get b=some x→b≠H.next→(ρ.add H.next ⟨g,0,l.length⟩) b=some L→ρ b=some L∧L.blk < w.heap.size:=fun {b x L} hx hn hL=>by
   unfold Ren.add at hL
   rw[if_neg hn] at hL
   exact⟨hL,h.lt hx hL⟩
  rcases hold2 b x hx with⟨rfl,rfl⟩ | ⟨h1,h2⟩
  ·rw[hself] at hL;cases hL
   rcases hold2 b' x' hx' with⟨rfl,rfl⟩ | ⟨h1',h2'⟩
   ·exact absurd rfl hne
   ·have:=(key h1' h2' hL').2
    show g≠L'.blk
    omega
  ·obtain⟨hL1,hL2⟩:=key h1 h2 hL
   rcases hold2 b' x' hx' with⟨rfl,rfl⟩ | ⟨h1',h2'⟩
   ·rw[hself] at hL';cases hL'
    show L.blk≠g
    omega
   ·exact h.inj b b' x x' L L' h1 h1' hne hL1 (key h1' h2' hL').1
 ·have hx:=zbft (ρ:=ρ) (H:=H) hb
  refine⟨hle,fun b hb=>by unfold Ren.add;rw[if_neg (by omega)],by rw[Heap.next_push];omega,⟨hb.size,fun c hc _=>hb.block c hc⟩,fun b x L hb' hL=>?_⟩
  rcases hold2 b x hb' with⟨rfl,rfl⟩ | ⟨h1,h2⟩
  ·rw[hself] at hL;cases hL
   exact .inl hg
  ·unfold Ren.add at hL
   rw[if_neg h2] at hL
   exact .inr ⟨b,x,L,h1,hL,rfl⟩
theorem zb0k {P:Program} (hG:P.globals.size≤N) (h:Rel N w₀ ρ H w) {g o:Nat} (hg:g < P.globals.size) {k:IntKind} {m:Int} (hc:H.cell g o=some (.int k m)):w.cell? ⟨g,o,none⟩=some (.int k m):=by
 obtain⟨s0,h0⟩:=h.base g (by omega)
 obtain⟨v',h1,h2⟩:=h.cell hc h0
 simp only[Nat.zero_add] at h1
 rw[h1]
 cases h2
 rfl
end
theorem zbj8 {α β:Type} [DecidableEq α] [DecidableEq β] (f:α→β) (hf:∀ a b,f a=f b→a=b) (c:α):∀ l:List α,zgp (f c) (l.map f)=(zgp c l).map (List.map f)
 | []=>rfl
 | b :: l=>by
  rw[List.map_cons,zgp,zgp,zbj8 f hf c l]
  by_cases h:b=c
  ·subst h;rw[if_pos rfl,if_pos rfl];rfl
  ·rw[if_neg h,if_neg (fun e=>h (hf _ _ e))]
   cases hs:zgp c l with
   | nil=>exact absurd hs (zbfo c l)
   | cons a t=>rfl
theorem z2m (c:UInt8):∀ (l:List UInt8) (k:Nat),Lib.count l [c]≤k→Lib.splitK [c] 0 k l=zgp c l
 | [],0,_=>rfl
 | [],k + 1,_=>rfl
 | b :: l,k,hk=>by
  by_cases h:b=c
  ·subst h
   rw[Lib.count_cons_eq] at hk
   obtain⟨j,rfl⟩:∃ j,k=j + 1:=⟨k - 1,by omega⟩
   have hix:Lib.index (b :: l) [b]=0:=by rw[Lib.index];simp[List.isPrefixOf]
   rw[Lib.splitK,if_neg (by rw[hix];decide),hix,zgp,if_pos rfl,← z2m b l j (by omega)]
   rfl
  ·rw[Lib.count_cons_ne b c l h] at hk
   have hp:([c]:List UInt8).isPrefixOf (b :: l)=false:=by simp[List.isPrefixOf,Ne.symm h]
   have hix:Lib.index (b :: l) [c]=if Lib.index l [c] == -1 then -1 else Lib.index l [c] + 1:=by rw[Lib.index,hp];simp
   by_cases hm:Lib.index l [c] = -1
   ·have hm2:Lib.index (b :: l) [c] = -1:=by rw[hix,if_pos (beq_iff_eq.2 hm)]
    have e1:Lib.splitK [c] 0 k (b :: l)=[b :: l]:=by
     cases k with
     | zero=>rfl
     | succ k=>rw[Lib.splitK,if_pos (beq_iff_eq.2 hm2)]
    have e2:Lib.splitK [c] 0 k l=[l]:=by
     cases k with
     | zero=>rfl
     | succ k=>rw[Lib.splitK,if_pos (beq_iff_eq.2 hm)]
    have e3:=z2m c l k hk
    rw[e2] at e3
    rw[e1,zgp,if_neg h,← e3]
    rfl
   ·have hge:=Lib.index_ge l [c]
    obtain⟨j,hj⟩:∃ j:Nat,Lib.index l [c]=j:=⟨(Lib.index l [c]).toNat,by omega⟩
    have hix':Lib.index (b :: l) [c]=((j + 1:Nat):Int):=by rw[hix,if_neg (fun e=>hm (beq_iff_eq.1 e)),hj];omega
    have hc1:=Lib.count_hit (s:=l) (sub:=[c]) (by simp) hj
    obtain⟨q,rfl⟩:∃ q,k=q + 1:=⟨k - 1,by omega⟩
    have e3:=z2m c l (q + 1) hk
    rw[Lib.splitK,if_neg (fun e=>hm (beq_iff_eq.1 e)),hj] at e3
    rw[Lib.splitK,if_neg (fun e=>by have:=beq_iff_eq.1 e;omega),hix',zgp,if_neg h,← e3]
    simp
theorem zb7q (b:UInt8):UInt8.ofBitVec b.toBitVec=b:=rfl
theorem zbvv (a b:UInt8) (h:a.toBitVec=b.toBitVec):a=b:=UInt8.toBitVec_inj.1 h
theorem zb0l {s t:ByteArray} (h:s.data.toList=t.data.toList):s=t:=by
 cases s;cases t;simp at h;rw[h]
theorem zbeb:∀ {a b:List ByteArray},a.map (·.data.toList)=b.map (·.data.toList)→a=b
 | [],[],_=>rfl
 | [],_ :: _,h=>by simp at h
 | _ :: _,[],h=>by simp at h
 | x :: a,y :: b,h=>by
  simp only[List.map_cons,List.cons.injEq] at h
  rw[zb0l h.1,zbeb h.2]
theorem zbvw (l:List (BitVec 8)):(sv l).data.toList=l.map UInt8.ofBitVec:=by simp[sv]
theorem zbgu (s t:ByteArray) (c:BitVec 8) (ht:bv t=[c]):Lib.splitB t 0 (Lib.countB s t) s=zc1 c s:=by
 apply zbeb
 have et:t.data.toList=[UInt8.ofBitVec c]:=by
  have:t=sv [c]:=by rw[← ht,zbmk]
  rw[this,zbvw];rfl
 rw[Lib.splitB_data,et]
 have ec:Lib.countB s t=Lib.count s.data.toList [UInt8.ofBitVec c]:=by show Lib.count _ _=_;rw[et]
 rw[ec,z2m _ _ _ (Nat.le_refl _)]
 unfold zc1 bv
 have:=zbj8 UInt8.toBitVec zbvv (UInt8.ofBitVec c) s.data.toList
 rw[show (UInt8.ofBitVec c).toBitVec=c from rfl] at this
 rw[this,List.map_map,List.map_map]
 have hid:∀ l:List UInt8,(sv (l.map UInt8.toBitVec)).data.toList=l:=fun l=>by
  rw[zbvw,List.map_map]
  exact (List.map_congr_left (fun x _=>zb7q x)).trans (List.map_id l)
 exact ((List.map_congr_left (fun l _=>hid l)).trans (List.map_id _)).symm
theorem zb0m {b:UInt8} (h:z3s b.toBitVec=true):48≤b.toNat∧b.toNat≤57:=by
 unfold z3s at h
 exact of_decide_eq_true h
theorem zbx2 (n:Nat) (b:BitVec 8) (l:List (BitVec 8)):decL n (b :: l)=decL (n * 10 + (b.toNat - 48)) l:=by
 conv=>lhs;unfold decL
theorem zb0n {b:UInt8} (l:List UInt8) (n:Nat) (h:z3s b.toBitVec=true):Lib.decFrom n (b :: l)=Lib.decFrom (n * 10 + (b.toBitVec.toNat - 48)) l:=by
 have h2:Lib.digitVal b=some (b.toNat - 48):=if_pos (zb0m h)
 rw[Lib.decFrom,h2,UInt8.toNat_toBitVec]
theorem zb3d (l:List UInt8):∀ n:Nat,(l.map UInt8.toBitVec).all z3s=true→Lib.decFrom n l=some (decL n (l.map UInt8.toBitVec)):=by
 induction l with
 | nil=>intro n _;rfl
 | cons b l ih =>
  intro n h
  rw[List.map_cons,List.all_cons,Bool.and_eq_true] at h
  rw[zb0n l n h.1,ih _ h.2,List.map_cons,zbx2]
theorem zb0o (s:ByteArray) (h0:s.size≠0) (h:(bv s).all z3s=true):Lib.atoi s.data.toList=some ((decL 0 (bv s):Nat):Int):=by
 unfold bv at h ⊢
 have hl:s.data.toList≠[]:=fun e=>h0 (by have:=congrArg List.length e;simpa using this)
 generalize s.data.toList=l at h hl
 match l,h,hl with
 | b :: l,h,_ =>
  have h':=h
  simp only[List.map_cons,List.all_cons,Bool.and_eq_true] at h'
  have h1:=zb0m h'.1
  have n1:¬ (b == 45)=true:=fun e=>by have:=beq_iff_eq.1 e;subst this;exact absurd h1.1 (by decide)
  have n2:¬ (b == 43)=true:=fun e=>by have:=beq_iff_eq.1 e;subst this;exact absurd h1.1 (by decide)
  rw[Lib.atoi,if_neg n1,if_neg n2,Lib.decNat,if_neg (by simp),zb3d _ _ h]
  rfl
theorem zbj9 (c:UInt8):∀ l:List UInt8,Lib.indexByte l c=idxB c.toBitVec (l.map UInt8.toBitVec)
 | []=>rfl
 | b :: l=>by
  rw[List.map_cons,Lib.indexByte,idxB,zbj9 c l]
  by_cases h:b=c
  ·subst h;rw[if_pos (by simp),if_pos rfl]
  ·rw[if_neg (by simpa using h),if_neg (fun e=>h (zbvv _ _ e))]
   by_cases h2:idxB c.toBitVec (l.map UInt8.toBitVec) = -1
   ·rw[if_pos (beq_iff_eq.2 h2),if_pos h2]
   ·rw[if_neg (fun e=>h2 (beq_iff_eq.1 e)),if_neg h2]
theorem known_split:zq Tryz.prog zcu zpr:=by
 refine⟨by kernel_rfl,?_⟩
 intro N w₀ ρ H w args args' r H' hG hR ha hl
 have hgs:Tryz.prog.globals.size=10:=by kernel_rfl
 unfold zpr at hl
 split at hl
 ·rename_i s t
  split at hl
  ·rename_i m c hm ht
   by_cases hs:s.size < 4294967281
   ·rw[if_pos hs] at hl
    cases hl
    cases ha with
    | cons h1 h2=>cases h2 with
     | cons h2 h3 =>
      cases h3;cases h1;cases h2
      have ht1:t.size=1:=by rw[← zci,ht];rfl
      refine (Tryz.strings_Split s t m w hs (zb0k hG hR (by omega) hm) (by omega)).mono fun e w' ⟨he,hw⟩=>?_
      have hlen:Lib.countB s t + 1=(zc1 c s).length:=by
       rw[← zbgu s t c ht,Lib.splitB_all t (by omega) 0 _ s rfl]
      rw[zbgu s t c ht] at hw
      rw[hlen] at he
      have hb:Below w.heap.size w w':=by rw[hw];exact (Below.refl _ _).alloc (Nat.le_refl _) _
      have hcell:w'.heap[w.heap.size]? = some (.cells ((zc1 c s).map Value.string).toArray 9 (0,0)):=by
       rw[hw];show (w.heap.push _)[w.heap.size]? = _;rw[Array.getElem?_push_size]
      obtain⟨r1,r2⟩:=zbx1 hR hb (Nat.le_refl _) hcell
      have ee:zbj (zc1 c s)=(zc1 c s).map Value.string:=by
       unfold zbj
       induction zc1 c s with
       | nil=>rfl
       | cons x l ih=>rw[List.flatMap_cons,ih];rfl
      rw[ee]
      refine⟨_,he,_,?_,r1,r2⟩
      have hself:(ρ.add H.next ⟨w.heap.size,0,(zc1 c s).length⟩) H.next=some ⟨w.heap.size,0,(zc1 c s).length⟩:=by unfold Ren.add;rw[if_pos rfl]
      exact .slc _ 0 1 _ _ _ 0 _ _ hself (.inl rfl) (Nat.le_refl _) (Nat.le_refl _) (.inr (by simp)) (.inl rfl) (.inr (by have:=zz2 c (bv s);have:=zci s;unfold zc1;rw[List.length_map];omega))
   ·rw[if_neg hs] at hl;cases hl
  ·cases hl
 ·cases hl
theorem known_atoi:zq Tryz.prog zbp zc3:=by
 refine⟨by kernel_rfl,?_⟩
 intro N w₀ ρ H w args args' r H' hG hR ha hl
 unfold zc3 at hl
 split at hl
 ·rename_i s
  by_cases hc:s.size≤18∧s.size≠0∧(bv s).all z3s=true
  ·rw[if_pos hc] at hl
   cases hl
   cases ha with
   | cons h1 h2 =>
    cases h2;cases h1
    refine (Tryz.strconv_Atoi s _ hc.1 (zb0o s hc.2.1 hc.2.2) w).mono fun e w' ⟨he,t,hw⟩=>?_
    have hb:Below w.heap.size w w':=by rw[hw];exact Lib.bytesWorld_below _ _ _
    refine⟨_,he,ρ,?_,zbfs hR hb,zbft hb⟩
    exact VRel.tuple' (.cons (.int _ _) (.cons .nilIface .nil))
  ·rw[if_neg hc] at hl;cases hl
 ·cases hl
theorem known_ixb:zq Tryz.prog zb3 zx4:=by
 refine⟨by kernel_rfl,?_⟩
 intro N w₀ ρ H w args args' r H' hG hR ha hl
 unfold zx4 at hl
 split at hl
 ·rename_i s n
  by_cases hc:s.size≤1000000000
  ·rw[if_pos hc] at hl
   cases hl
   cases ha with
   | cons h1 h2=>cases h2 with
    | cons h2 h3 =>
     cases h3;cases h1;cases h2
     refine (Tryz.strings_IndexByte s n w).mono fun e w' ⟨he,hw⟩=>?_
     subst hw
     rw[zbj9] at he
     exact⟨_,he,ρ,.int _ _,hR,.refl _ _ _⟩
  ·rw[if_neg hc] at hl;cases hl
 ·cases hl
end Go.AM.Cap

/- conf: how the arguments of its laws are opened; the listed variables, two errors among them -/
namespace Go.AM.Cap
open Go.AM Go.Proofs Go.Proofs.YtjchglndancedaaGreatDoor Go.ChangeShapes Go.WideShapes Go.RowKit
def noM (_:List V):M V:=fail
theorem known_no {P:Program} {f:Nat} (h:zv5 P f=true):zq P f noM:=⟨h,fun N w₀ ρ H w args args' r H' hG hR ha hl=>(z6 hl).elim⟩
theorem blocks_of {P:Program} {W:World} (h:W.ShapedOpen P) {n:Nat} (hg:P.globals.size=n + 1) (hz:((((begin P (fun _ _=>0) default).world.heap[n]?).bind Obj.row?).isSome)=true):P.globals.size≤W.heap.size:=by
 obtain⟨x,hx⟩:=Option.isSome_iff_exists.1 hz
 obtain⟨cs,hc,_⟩:=h.1 n x.1 x.2 (by omega) hx
 rw[hg]
 by_cases q:n < W.heap.size
 ·omega
 ·rw[Array.getElem?_eq_none (by omega)] at hc;cases hc
theorem maxL {W:World} (h:W.ShapedOpen Tryz.prog):ML (zqr W):=by
 obtain⟨m,hm⟩:=cell_of_shapedOpen_int (g:=2) (t:=3) (zero:=#[.int .i64 0]) (k := .i64) h (by rw[show Tryz.prog.globals.size=10 by kernel_rfl];decide) (by kernel_rfl) rfl (by kernel_rfl) (by kernel_rfl) (by kernel_rfl)
 refine⟨m,?_⟩
 unfold World.cell? at hm
 split at hm
 ·rename_i c t f hb
  have hb':W.heap[2]? = some (.cells c t f):=hb
  unfold Heap.cell
  rw[z0g,hb']
  have h0:c[0]? = some (.int .i64 m):=by simpa using hm
  show (c.toList.map (znb W.heap.size))[0]? = _
  rw[List.getElem?_map,Array.getElem?_toList,h0]
  rfl
 ·cases hm
def bya (l:List UInt8):ByteArray:=⟨l.toArray⟩
theorem zbl1 {H:Type} {enc:TypeId × Value→H} {P:Program} {w:World} {base:Nat} {sp:Nat→Bool} {held:Bool} {fuel:Nat} {t e:TypeId} {n:Nat} {cs:List Value} {zs:List (List UInt8)} {p:List MemPlace}
  (ht:P.underlying t=some (.array n e)) (he:P.underlying e=some .string) (hce:P.cellsOf e=1) (hct:P.cellsOf t=n)
  (h:DataW.trod enc P w base sp held fuel t cs=some (.agg (zs.map fun z => .lit (.string z)),p)):cs=zs.map fun z=>Value.string (bya z):=by
 cases fuel with
 | zero=>simp[DataW.trod] at h
 | succ fuel =>
  simp only[DataW.trod,ht,hce,hct,Nat.mul_one] at h
  split at h
  ·rename_i hl
   obtain⟨xs,hm,hx⟩:=Option.map_eq_some_iff.1 h
   have hxs:xs.map (·.1)=zs.map fun z=>(DataW.lit (.string z):DataW H):=by
    have:=congrArg Prod.fst hx
    simpa using this
   have hxl:xs.length=n:=by simpa using Lib.mapM_length hm
   have hzl:zs.length=n:=by
    have:=congrArg List.length hxs
    simp at this
    omega
   apply List.ext_getElem?
   intro i
   by_cases hi:i < n
   ·obtain⟨b,hb,hf⟩:=Lib.mapM_at hm i i (by simp[hi])
    obtain⟨z,hc,rfl,_⟩:=DataW.trod_string he hf
    have h1:cs[i]? = some (.string z):=by
     have:=congrArg (·[0]?) hc
     simpa[List.getElem?_take,List.getElem?_drop] using this
    have h2:(xs.map (·.1))[i]? = some (DataW.lit (.string z.data.toList):DataW H):=by simp[hb]
    rw[hxs] at h2
    simp only[List.getElem?_map,Option.map_eq_some_iff,DataW.lit.injEq,Lit.string.injEq] at h2
    obtain⟨z',hz',rfl⟩:=h2
    rw[h1,List.getElem?_map,hz']
    rfl
   ·rw[List.getElem?_eq_none (by omega),List.getElem?_eq_none (by simp;omega)]
  ·cases h
theorem zbmz {W:World} {name:String} {g:Nat} {t e:TypeId} {n:Nat} {zs:List (List UInt8)} (h2:laidMet Tryz.prog [(name,.agg (zs.map fun z => .lit (.string z)))] W) (hg:Tryz.prog.globalNamed name=some g) (htg:(Tryz.prog.globals[g]?).map (·.type)=some t)
  (ht:Tryz.prog.underlying t=some (.array n e)) (he:Tryz.prog.underlying e=some .string) (hce:Tryz.prog.cellsOf e=1) (hct:Tryz.prog.cellsOf t=n):(zqr W).get g=some (.cells false (zs.map fun z => .string (bya z))):=by
 obtain⟨ps,⟨g',t',cs,fuel,p,q,hg',ht',hvar,hd,_,_⟩,_⟩:=h2
 obtain rfl:=Option.some.inj (hg.symm.trans hg')
 obtain rfl:=Option.some.inj (htg.symm.trans ht')
 have hcs:=zbl1 ht he hce hct hd
 unfold World.var? at hvar
 rw[hg'] at hvar
 simp only[Option.bind_eq_bind,Option.bind_some] at hvar
 split at hvar
 ·rename_i C e f hC
  cases hvar
  have hC':W.heap[g]? = some (.cells cs e f):=hC
  rw[z0g,hC']
  show some (Blk.cells false (cs.toList.map (znb W.heap.size)))=_
  rw[hcs]
  simp only[List.map_map]
  rfl
 ·cases hvar
def zb5y:List (List UInt8):=[[],[98,111,111,108],[105,110,116],[100,105,110,116]]
def zb3e:List (List UInt8):=[[],[118,105,101,119],[114,117,110],[98,117,105,108,100],[102,111,114,99,101]]
def zb0p:DataW Unit→List V
 | .lit (.int k n)=>[.int k n]
 | .lit (.string l)=>[.string ⟨l.toArray⟩]
 | _=>[]
def zb0q:DataW Unit→List V
 | .agg ds=>ds.flatMap zb0p
 | d=>zb0p d
def zbbq:DataW Unit→List V
 | .agg ds=>ds.flatMap zb0q
 | d=>zb0q d
def lay (cs:List V) (o:Obj):Obj:=match o with
 | .cells _ t frozen => .cells cs.toArray t frozen
 | o=>o
noncomputable def N0 (os:Os):Nat:=(World.settled Tryz.prog os).heap.size
noncomputable def zb0r (os:Os):World:=World.holding Tryz.prog os ⟨#[.cells #[.string ⟨#[105,110,118,97,108,105,100,32,115,121,110,116,97,120]⟩] 332,.cells #[.string ⟨#[118,97,108,117,101,32,111,117,116,32,111,102,32,114,97,110,103,101]⟩] 332],#[],[]⟩
noncomputable def laidWorld (os:Os):World :=
 { zb0r os with heap:=(((((((((zb0r os).heap.modify 8 (lay (zbbq Rows.laid_math_bits_deBruijn32tab))).modify 9 (lay (zbbq Rows.laid_math_bits_deBruijn64tab))).modify 5 (lay (zbbq Rows.laid_internal_strconv_uint64pow10))).modify 3 (lay (zbbq Rows.laid_unicode_utf8_first))).modify 4 (lay (zbbq Rows.laid_unicode_utf8_acceptRanges))).modify Cap.gid_conf_types (lay (zbbq Rows.laid_capstan_conf_types))).modify Cap.gid_conf_levels (lay (zbbq Rows.laid_capstan_conf_levels))).modify 6 (lay [.iface 330 (.pointer (some ⟨N0 os,0,none⟩))])).modify 7 (lay [.iface 330 (.pointer (some ⟨N0 os + 1,0,none⟩))]) }
section
variable {H:Type} {enc:TypeId × Value→H} {P:Program} {W:World}
theorem zb0s (d:DataW H):1≤Rows.uptoBulk d:=by
 cases d with
 | lit l=>cases l <;> simp[Rows.uptoBulk]
 | _=>simp[Rows.uptoBulk]
theorem zbsl:∀ l:List (DataW H),l.length≤Rows.uptoBulkAll l
 | []=>Nat.zero_le _
 | d :: l=>by
  have:=zb0s d
  have:=zbsl l
  simp only[List.length_cons,Rows.uptoBulkAll];omega
theorem bulk_mem:∀ {l:List (DataW H)} {d:DataW H},d∈l→Rows.uptoBulk d≤Rows.uptoBulkAll l
 | d :: l,x,h=>by
  simp only[Rows.uptoBulkAll]
  rcases List.mem_cons.1 h with rfl | h
  ·omega
  ·have:=bulk_mem h;omega
theorem zbvx {α:Type} {xs:List α} {d:DataW H} {R:DataW H→α→Prop} (h:(d = .nil∧xs=[])∨∃ D rest,d = .slice ((List.range xs.length).map D) rest∧∀ i x,xs[i]? = some x→R (D i) x):xs.length≤Rows.uptoBulk d:=by
 rcases h with⟨rfl,rfl⟩ | ⟨D,rest,rfl,_⟩
 ·exact Nat.zero_le _
 ·have:=zbsl ((List.range xs.length).map D)
  rw[List.length_map,List.length_range] at this
  simp only[Rows.uptoBulk];omega
end
end Go.AM.Cap
