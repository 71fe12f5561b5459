import Derived.Test.YtjchglndancedaaGreatDoorCfL
import Derived.Test.YtjchglndancedaaGreatDoorAmIn
set_option linter.all false
/- conf: numbers, kinds, levels, bytes of zuj -/
set_option maxHeartbeats 8000000
namespace Go.AM.Cap
open Go.AM Go.Proofs
theorem zbd8 {l:List ByteArray} {i:Nat} (h:i < l.length):wAt l i∈l:=zbh h
theorem zxr {H:Heap} {G:List V→M V} {v:V} {ws:List ByteArray} (h:Sl H v ws) (hl:ws.length≤1000000) (hw:∀ w∈ws,w.size≤1000000) (many:Nat) (Q:V→Heap→Prop)
  (hok:∀ l,zm3 ws many=some l→∀ w H',Keeps [] H H'→zh7 H' w l→(∀ b∈vb w,H.next≤b)→Q (.tuple #[w,.bool true]) H') (hbad:zm3 ws many=none→∀ w H',Keeps [] H H'→Q (.tuple #[w,.bool false]) H'):wp (zc4 G zc3 [v,i64 many]) Q H:=by
 show wp (zwi G zc3 v (i64 many)) Q H
 have hlen:=h.len
 (try simp (maxSteps:=999999) (disch:=try exact ZD) only[ZB,zwi,hlen])
 refine zbo ws.length (by omega) (fun j vs H'=>∃ w,vs=[i64 many,w,v,i64 ws.length,i64 j]∧Hp H H' [own w ((ws.take j).map fun x=>(zz3 x).1)]∧∀ i,i < j→(zz3 (wAt ws i)).2=true) ⟨.slice none 0 0,rfl,(Hp.start H).nilo (α:=Int),by omega⟩ ?_
 rintro j vs H1 hj ⟨w,rfl,s1,hn⟩
 by_cases hlt:j < ws.length
 case neg =>
  have:j=ws.length:=by omega
  subst this
  rw[List.take_length] at s1
  have o1:=s1.own (i:=0) rfl
  have ol:=o1.len
  rw[List.length_map] at ol
  have hall:ws.all (fun w=>(zz3 w).2)=true:=by
   rw[List.all_eq_true]
   intro x hx
   obtain⟨i,hi,rfl⟩:=List.getElem_of_mem hx
   have:=hn i hi
   rwa[wAt,List.getD_eq_getElem?_getD,List.getElem?_eq_getElem hi] at this
  by_cases hc:ws.length=many
  ·have e:zm3 ws many=some (ws.map fun w=>(zz3 w).1):=by rw[zm3,if_pos ⟨hall,hc⟩]
   have e2:decide ((ws.length:Int)=(many:Int))=true:=decide_eq_true (by omega)
   (try simp (maxSteps:=999999) (disch:=try exact ZD) only[ZB,zo6,zub,ol,e2])
   exact hok _ e _ _ s1.keeps o1 (s1.newAt (i:=0) rfl)
  ·have e:zm3 ws many=none:=by rw[zm3,if_neg (fun q=>hc q.2)]
   have e2:decide ((ws.length:Int)=(many:Int))=false:=decide_eq_false (by omega)
   (try simp (maxSteps:=999999) (disch:=try exact ZD) only[ZB,zo6,zub,ol,e2])
   exact hbad e _ _ s1.keeps
 have hts:ws.take (j + 1)=ws.take j ++ [wAt ws j]:=by
  rw[wAt,List.getD_eq_getElem?_getD,List.getElem?_eq_getElem hlt];exact List.take_succ_eq_append_getElem hlt
 have hm:=zbd8 hlt
 obtain⟨a1,c1⟩:=z77 (s1.ro h) hlt
 (try simp (maxSteps:=999999) (disch:=try exact ZD) only[ZB,zo6,z3e,a1,c1])
 refine zbfq (wAt ws j) (hw _ hm) _ fun H2 k2=>?_
 have s2:=s1.keep0 k2
 cases hb:(zz3 (wAt ws j)).2 with
 | false =>
  have e:zm3 ws many=none:=by
   rw[zm3,if_neg]
   rintro⟨q,_⟩
   have:=List.all_eq_true.1 q _ hm
   rw[hb] at this;cases this
  (try simp (maxSteps:=999999) (disch:=try exact ZD) only[ZB])
  exact hbad e _ _ s2.keeps
 | true =>
  rw[hts,List.map_append]
  have htl:((ws.take j).map fun x=>(zz3 x).1).length=j:=by rw[List.length_map,List.length_take];omega
  (try simp (maxSteps:=999999) (disch:=try exact ZD) only[ZA,zbz,zo,zn,zm,zk,zi,zg,ze,z3c])
  refine zna (α:=Int) (n:=1) (ys:=[(zz3 (wAt ws j)).1]) s2 (i:=0) rfl rfl (by decide) (by rw[show rep 1 [Value.int .i64 0]=[i64 0] from rfl,ze rfl (by decide),zb1];rfl) rfl (by rw[htl];omega) (by rw[htl];omega) fun w' H3 s3=>?_
  (try simp (maxSteps:=999999) (disch:=try exact ZD) only[ZB,z3d])
  refine⟨hlt,w',rfl,s3,fun i hi=>?_⟩
  rcases Nat.lt_or_eq_of_le (Nat.lt_succ_iff.1 hi) with q | rfl
  ·exact hn i q
  ·exact hb
structure Tabs (H:Heap):Prop where
 types:∃ rw_,H.get gid_conf_types=some (.cells rw_ (zbj [zol,zbgq,kInt,zbgr]))
 levels:∃ rw_,H.get gid_conf_levels=some (.cells rw_ (zbj [zol,zbgs,kRun,z7f,z7g]))
 ml:ML H
theorem Tabs.keep0 {H H':Heap} (h:Tabs H) (hk:Keeps [] H H'):Tabs H':=by
 obtain⟨r1,h1⟩:=h.types
 obtain⟨r2,h2⟩:=h.levels
 exact⟨⟨r1,hk.get h1 (by simp)⟩,⟨r2,hk.get h2 (by simp)⟩,h.ml.keep0 hk⟩
theorem zbsb {n b:Nat} (h:2≤n):subA n 1 (ptr b 0) (some (i64 1)) none=some (slc b 1 0 (n - 1) (n - 1)):=by
 have e1:zd1 n n none=some n:=rfl
 have e2:zd1 0 n (some (i64 1))=some 1:=by simp[zd1];omega
 simp only[subA,e1,e2,zts]
 rw[if_neg (by omega)]
theorem zbz9 (w:ByteArray):zkt (zhf (fun x=>decide (w=x)) [zbgq,kInt,zbgr]) + 1=zgk w:=by
 unfold zgk
 by_cases h1:w=zbgq
 ·rw[if_pos h1];simp[zhf,h1,zkt]
 rw[if_neg h1]
 by_cases h2:w=kInt
 ·rw[if_pos h2];subst h2;simp[zhf,zkt,h1]
 rw[if_neg h2]
 by_cases h3:w=zbgr
 ·rw[if_pos h3];subst h3;simp[zhf,zkt,h1,h2]
 rw[if_neg h3]
 simp[zhf,zkt,h1,h2,h3]
theorem zbxv (w:ByteArray):zkt (zhf (fun x=>decide (w=x)) [zbgs,kRun,z7f,z7g]) + 1=zhs w:=by
 unfold zhs
 by_cases h1:w=zbgs
 ·rw[if_pos h1];simp[zhf,h1,zkt]
 rw[if_neg h1]
 by_cases h2:w=kRun
 ·rw[if_pos h2];subst h2;simp[zhf,zkt,h1]
 rw[if_neg h2]
 by_cases h3:w=z7f
 ·rw[if_pos h3];subst h3;simp[zhf,zkt,h1,h2]
 rw[if_neg h3]
 by_cases h4:w=z7g
 ·rw[if_pos h4];subst h4;simp[zhf,zkt,h1,h2,h3]
 rw[if_neg h4]
 simp[zhf,zkt,h1,h2,h3,h4]
theorem zb0a (w:ByteArray):1 + zkt (zhf (fun x=>decide (w=x)) [zkg,zr5])=zfa w:=by
 unfold zfa
 by_cases h1:w=zkg
 ·rw[if_pos h1];simp[zhf,h1,zkt]
 rw[if_neg h1]
 by_cases h2:w=zr5
 ·rw[if_pos h2];subst h2;simp[zhf,zkt,h1]
 rw[if_neg h2]
 simp[zhf,zkt,h1,h2]
theorem zbsc (w:ByteArray):0≤zgk w∧zgk w≤3:=by unfold zgk;(repeat' split) <;> omega
theorem zbo5 (w:ByteArray):0≤zhs w∧zhs w≤4:=by unfold zhs;(repeat' split) <;> omega
theorem zbsd (w:ByteArray):0≤zfa w∧zfa w≤2:=by unfold zfa;(repeat' split) <;> omega
theorem zb0b {H:Heap} {g:Nat} {l:List ByteArray} {a:ByteArray} (h:∃ rw_,H.get g=some (.cells rw_ (zbj (a :: l)))):Sl H (slc g 1 0 l.length l.length) l:=by
 obtain⟨r,hg⟩:=h
 refine .inr ⟨g,1,0,l.length,rfl,Nat.le_refl _,Heap.get_lt hg,.inr ⟨r,_,hg,?_,?_⟩,.inl rfl⟩
 ·rw[zb6]
  show 1 + l.length * 1≤(l.length + 1) * 1
  omega
 ·rw[zhb]
  show ((Value.string a :: zbj l).drop 1).take (l.length * 1)=_
  rw[List.drop_succ_cons,List.drop_zero,List.take_of_length_le (by rw[zb6];exact Nat.le_refl _)]
theorem zbvp {H:Heap} (hT:Tabs H) (w:ByteArray) (Q:V→Heap→Prop) (hQ:Q (.tuple #[i64 (zgk w),.bool (decide (zgk w≠0))]) H):wp (zp5 [.string w]) Q H:=by
 show wp (z43 (.string w)) Q H
 have e1:subA 4 1 (ptr gid_conf_types 0) (some (Value.int .i64 1)) none=some (slc gid_conf_types 1 0 3 3):=zbsb (by decide)
 (try simp (maxSteps:=999999) (disch:=try exact ZD) only[ZB,z43,e1])
 refine z78 (l:=[zbgq,kInt,zbgr]) (zb0b hT.types) (by decide) w _ ?_
 have hr:=zbsc w
 have hi:=zbz9 w
 have e2:zu .add (i64 (zkt (zhf (fun x=>decide (w=x)) [zbgq,kInt,zbgr]))) (Value.int .i64 1)=some (i64 (zgk w)):=by
  rw[← hi] at hr ⊢
  show some (Value.int .i64 (IntKind.wrap .i64 _))=_
  rw[i64_in (by omega) (by omega)]
 have e3:decide (zgk w > 0)=decide (zgk w≠0):=decide_eq_decide.2 (by omega)
 (try simp (maxSteps:=999999) (disch:=try exact ZD) only[ZB,e2,e3])
 exact hQ
def zbmv (b:BitVec 8):Bool:=(hexD b).isSome
theorem zbvq:∀ b:BitVec 8,inS (bv zyu) b=zbmv b:=by decide +kernel
theorem zbxw:∀ b∈bv zyu,b.toNat < 128:=by decide +kernel
theorem zb2x:∀ b:BitVec 8,(match hexD b with | some x=>decide (idxB b (bv zyu)=(x:Int)) && decide (x < 16) | none=>true)=true:=by decide +kernel
theorem zbse {b:BitVec 8} {x:Nat} (h:hexD b=some x):idxB b (bv zyu)=(x:Int)∧x < 16:=by
 have:=zb2x b
 rw[h] at this
 simpa using this
theorem zbsf (w:ByteArray):(sv (zt6 (bv zyu) (zr3 (bv zyu) (bv w)))=zol)↔(bv w).all zbmv=true:=by
 rw[zbj1,zbjr,List.all_eq_true]
 constructor
 ·intro h b hb;rw[← zbvq];exact h b hb
 ·intro h b hb;rw[zbvq];exact h b hb
theorem zbj2:∀ l:List (BitVec 8),(zom l).isSome=(decide (l.length % 2=0) && l.all zbmv)
 | []=>rfl
 | [a]=>by simp[zom]
 | a :: b :: l=>by
  have ih:=zbj2 l
  unfold zom
  have e:decide ((a :: b :: l).length % 2=0)=decide (l.length % 2=0):=decide_eq_decide.2 (by simp only[List.length_cons];omega)
  rw[e]
  simp only[List.all_cons,zbmv]
  cases h1:hexD a <;> cases h2:hexD b <;> cases h3:zom l <;> simp[h3] at ih ⊢ <;> simp_all [zbmv]
theorem zb5u:∀ x y:Fin 16,((BitVec.ofInt 64 ((x.val * 16:Nat):Int)) ||| (BitVec.ofInt 64 ((y.val:Nat):Int))).toNat=x.val * 16 + y.val:=by decide +kernel
theorem zb5v:∀ x y:Fin 16,IntKind.u8.wrap ((x.val * 16 + y.val:Nat):Int)=((BitVec.ofNat 8 (x.val * 16 + y.val)).toNat:Int):=by decide +kernel
theorem zb0c {x y:Nat} (hx:x < 16) (hy:y < 16):zu .shl (i64 x) (Value.int .u64 4)=some (i64 ((x * 16:Nat):Int))∧zu .or (i64 ((x * 16:Nat):Int)) (i64 y)=some (i64 ((x * 16 + y:Nat):Int))∧cvi .u8 (i64 ((x * 16 + y:Nat):Int))=some (B (BitVec.ofNat 8 (x * 16 + y))):=by
 refine⟨?_,?_,?_⟩
 ·show some (Value.int .i64 (IntKind.wrap .i64 ((x:Int) * 16)))=_
  rw[i64_in (by omega) (by omega)]
  push_cast
  rfl
 ·have:=zb5u ⟨x,hx⟩ ⟨y,hy⟩
  simp only at this
  show some (Value.int .i64 (IntKind.wrap .i64 (((BitVec.ofInt 64 ((x * 16:Nat):Int)) ||| (BitVec.ofInt 64 (y:Int))).toNat:Int)))=_
  rw[this,i64_in (by omega) (by omega)]
 ·have:=zb5v ⟨x,hx⟩ ⟨y,hy⟩
  simp only at this
  show some (Value.int .u8 (IntKind.wrap .u8 ((x * 16 + y:Nat):Int)))=_
  rw[this]
theorem zb0d {H:Heap} {G:List V→M V} (w:ByteArray) (hw:w.size≤1000000) (Q:V→Heap→Prop) (hok:∀ r,zom (bv w)=some r→∀ H',Keeps [] H H'→Q (.tuple #[.string (sv r),.bool true]) H') (hbad:zom (bv w)=none→∀ H',Keeps [] H H'→Q (.tuple #[.string zol,.bool false]) H'):wp (zu7 G zx4 [.string w]) Q H:=by
 show wp (zu6 G zx4 (.string w)) Q H
 have hiff:=zbj2 (bv w)
 have hlen:=zci w
 have erem:zu .rem (i64 (w.size:Int)) (Value.int .i64 2)=some (i64 ((w.size % 2:Nat):Int)):=by
  show (if (2:Int)=0 then none else some (Value.int .i64 ((w.size:Int).tmod 2)))=_
  rw[if_neg (by decide)]
  have:(w.size:Int).tmod 2=((w.size % 2:Nat):Int):=by
   rw[Int.tmod_eq_emod_of_nonneg (by omega)];omega
  rw[this]
 by_cases c1:w.size % 2=0
 case neg =>
  have e1:decide (((w.size % 2:Nat):Int) > 0)=true:=decide_eq_true (by omega)
  have hn:zom (bv w)=none:=by
   cases hu:zom (bv w) with
   | none=>rfl
   | some r=>rw[hu,hlen,decide_eq_false c1] at hiff;cases hiff
  (try simp (maxSteps:=999999) (disch:=try exact ZD) only[ZB,zu6,erem,e1])
  exact hbad hn H (Keeps.refl _ _)
 have e1:decide (((w.size % 2:Nat):Int) > 0)=false:=decide_eq_false (by omega)
 (try simp (maxSteps:=999999) (disch:=try exact ZD) only[ZB,zu6,erem,e1])
 refine zboq w zyu (by omega) zbxw (by decide) (by decide) _ fun H1 k1=>?_
 cases c3:(bv w).all zbmv with
 | false =>
  have e:decide (sv (zt6 (bv zyu) (zr3 (bv zyu) (bv w)))≠(⟨#[]⟩:ByteArray))=true:=decide_eq_true fun h=>by
   have:=(zbsf w).1 h
   rw[c3] at this;cases this
  have hn:zom (bv w)=none:=by
   cases hu:zom (bv w) with
   | none=>rfl
   | some r=>rw[hu,c3] at hiff;simp at hiff
  (try simp (maxSteps:=999999) (disch:=try exact ZD) only[ZB,e])
  exact hbad hn H1 k1
 | true =>
  have e3:decide (sv (zt6 (bv zyu) (zr3 (bv zyu) (bv w)))≠(⟨#[]⟩:ByteArray))=false:=decide_eq_false fun h=>h ((zbsf w).2 c3)
  (try simp (maxSteps:=999999) (disch:=try exact ZD) only[ZB,e3,z87])
  rw[hlen,decide_eq_true c1,c3] at hiff
  obtain⟨r,hr⟩:=Option.isSome_iff_exists.1 hiff
  refine zbo (w.size / 2) (by omega) (fun j vs H'=>∃ (v:V) (acc rest:List (BitVec 8)),vs=[.string w,v,i64 ((2 * j:Nat):Int)]∧acc.length=j∧Hp H1 H' [own v acc]∧zom ((bv w).drop (2 * j))=some rest∧acc ++ rest=r) ⟨.slice none 0 0,[],r,rfl,rfl,(Hp.start H1).nilo,hr,rfl⟩ ?_
  rintro j vs H2 hj ⟨v,acc,rest,rfl,hacc,s2,hu,hcat⟩
  by_cases hlt:j < w.size / 2
  case neg =>
   have hj2:2 * j=w.size:=by omega
   have hdr:(bv w).drop (2 * j)=[]:=List.drop_of_length_le (by omega)
   rw[hdr] at hu
   cases hu
   rw[List.append_nil] at hcat
   subst hcat
   have e4:decide (((2 * j:Nat):Int) < (w.size:Int))=false:=decide_eq_false (by omega)
   (try simp (maxSteps:=999999) (disch:=try exact ZD) only[ZB,zze,e4,z86])
   refine zbis (s2.own (i:=0) rfl) ?_
   (try simp (maxSteps:=999999) (disch:=try exact ZD) only[ZB])
   exact hok _ hr _ (k1.trans s2.keeps (fun _ _ h=>h))
  have e4:decide (((2 * j:Nat):Int) < (w.size:Int))=true:=decide_eq_true (by omega)
  have i0:=ztb (s:=w) (k := .i64) (i:=((2 * j:Nat):Int)) (by omega) (by omega)
  have i1:=ztb (s:=w) (k := .i64) (i:=((2 * j:Nat):Int) + 1) (by omega) (by omega)
  rw[Int.toNat_natCast] at i0
  rw[show (((2 * j:Nat):Int) + 1).toNat=2 * j + 1 by omega] at i1
  have hd:(bv w).drop (2 * j)=(bv w).getD (2 * j) 0 :: (bv w).getD (2 * j + 1) 0 :: (bv w).drop (2 * (j + 1)):=by
   rw[zbaa (bv w) (2 * j) 0 (by omega),zbaa (bv w) (2 * j + 1) 0 (by omega)]
   rfl
  rw[hd] at hu
  generalize (bv w).getD (2 * j) 0=a at *
  generalize (bv w).getD (2 * j + 1) 0=b at *
  rw[zom] at hu
  cases ha:hexD a with
  | none=>rw[ha] at hu;cases hu
  | some x =>
   cases hb:hexD b with
   | none=>rw[ha,hb] at hu;cases hu
   | some y =>
    cases hr2:zom ((bv w).drop (2 * (j + 1))) with
    | none=>rw[ha,hb,hr2] at hu;cases hu
    | some rest' =>
     rw[ha,hb,hr2] at hu
     cases hu
     obtain⟨xa,xl⟩:=zbse ha
     obtain⟨ya,yl⟩:=zbse hb
     obtain⟨b1,b2,b3⟩:=zb0c xl yl
     (try simp (maxSteps:=999999) (disch:=try exact ZD) only[ZB,zze,e4,z84,i0,i1])
     refine zbz8 zyu a (by decide) _ ?_
     rw[xa]
     (try simp (maxSteps:=999999) (disch:=try exact ZD) only[ZB,b1])
     refine zbz8 zyu b (by decide) _ ?_
     rw[ya]
     (try simp (maxSteps:=999999) (disch:=try exact ZD) only[ZA,zbz,zo,zn,zm,zk,zi,zg,ze,b2,b3])
     refine zna (α:=BitVec 8) (n:=1) (ys:=[BitVec.ofNat 8 (x * 16 + y)]) s2 (i:=0) rfl rfl (by decide) (by rw[show rep 1 [Value.int .u8 0]=[Value.int .u8 0] from rfl,ze rfl (by decide),zb1];rfl) rfl (by rw[hacc];omega) (by rw[hacc];omega) fun v' H3 s3=>?_
     (try simp (maxSteps:=999999) (disch:=try exact ZD) only[ZB,z83])
     refine⟨hlt,v',acc ++ [BitVec.ofNat 8 (x * 16 + y)],rest',?_,by rw[List.length_append,hacc];rfl,s3,rfl,by rw[List.append_assoc];exact hcat⟩
     rw[show 2 * (j + 1)=2 * j + 2 by omega]
     push_cast
     rfl
end Go.AM.Cap
