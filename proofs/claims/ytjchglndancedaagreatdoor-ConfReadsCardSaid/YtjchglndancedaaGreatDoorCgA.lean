import Derived.Test.YtjchglndancedaaGreatDoorCfLib
import Derived.Test.YtjchglndancedaaGreatDoorAmOpenF
import Derived.Test.YtjchglndancedaaGreatDoorRows
import Derived.WalkKit
import Derived.ProofKit
import Derived.Deep.DeepWitnessRowRef
import Derived.LaidHandle
import Derived.Lib.LaidTab
import Derived.Shelf.Vars
set_option linter.all false
/- conf: how the arguments of its laws are opened; the listed variables, two errors among them -/
namespace Go.AM.Cap
open Go.AM Go.Proofs Go.Proofs.YtjchglndancedaaGreatDoor Go.ChangeShapes Go.WideShapes Go.RowKit
def noM (_:List V):M V:=fail
theorem known_no {P:Program} {f:Nat} (h:zw1 P f=true):zu P f noM:=⟨h,fun N w₀ ρ H w args args' r H' hG hR ha hl=>(z1 hl).elim⟩
theorem blocks_of {P:Program} {W:World} (h:W.ShapedOpen P) {n:Nat} (hg:P.globals.size=n + 1) (hz:((((begin P (fun _ _=>0) default).world.heap[n]?).bind Obj.row?).isSome)=true):P.globals.size≤W.heap.size:=by
 obtain⟨x,hx⟩:=Option.isSome_iff_exists.1 hz
 obtain⟨cs,hc,_⟩:=h.1 n x.1 x.2 (by omega) hx
 rw[hg]
 by_cases q:n < W.heap.size
 ·omega
 ·rw[Array.getElem?_eq_none (by omega)] at hc;cases hc
theorem maxL {W:World} (h:W.ShapedOpen Tryz.prog):ML (zbej W):=by
 obtain⟨m,hm⟩:=cell_of_shapedOpen_int (g:=2) (t:=3) (zero:=#[.int .i64 0]) (k := .i64) h (by rw[show Tryz.prog.globals.size=10 by kernel_rfl];decide) (by kernel_rfl) rfl (by kernel_rfl) (by kernel_rfl) (by kernel_rfl)
 refine⟨m,?_⟩
 unfold World.cell? at hm
 split at hm
 ·rename_i c t f hb
  have hb':W.heap[2]? = some (.cells c t f):=hb
  unfold Heap.cell
  rw[zbgw,hb']
  have h0:c[0]? = some (.int .i64 m):=by simpa using hm
  show (c.toList.map (absV W.heap.size))[0]? = _
  rw[List.getElem?_map,Array.getElem?_toList,h0]
  rfl
 ·cases hm
def bya (l:List UInt8):ByteArray:=⟨l.toArray⟩
theorem zbmr {H:Type} {enc:TypeId × Value→H} {P:Program} {w:World} {base:Nat} {sp:Nat→Bool} {held:Bool} {fuel:Nat} {t e:TypeId} {n:Nat} {cs:List Value} {zs:List (List UInt8)} {p:List MemPlace}
  (ht:P.underlying t=some (.array n e)) (he:P.underlying e=some .string) (hce:P.cellsOf e=1) (hct:P.cellsOf t=n)
  (h:DataW.trod enc P w base sp held fuel t cs=some (.agg (zs.map fun z => .lit (.string z)),p)):cs=zs.map fun z=>Value.string (bya z):=by
 cases fuel with
 | zero=>simp[DataW.trod] at h
 | succ fuel =>
  simp only[DataW.trod,ht,hce,hct,Nat.mul_one] at h
  split at h
  ·rename_i hl
   obtain⟨xs,hm,hx⟩:=Option.map_eq_some_iff.1 h
   have hxs:xs.map (·.1)=zs.map fun z=>(DataW.lit (.string z):DataW H):=by
    have:=congrArg Prod.fst hx
    simpa using this
   have hxl:xs.length=n:=by simpa using Lib.mapM_length hm
   have hzl:zs.length=n:=by
    have:=congrArg List.length hxs
    simp at this
    omega
   apply List.ext_getElem?
   intro i
   by_cases hi:i < n
   ·obtain⟨b,hb,hf⟩:=Lib.mapM_at hm i i (by simp[hi])
    obtain⟨z,hc,rfl,_⟩:=DataW.trod_string he hf
    have h1:cs[i]? = some (.string z):=by
     have:=congrArg (·[0]?) hc
     simpa[List.getElem?_take,List.getElem?_drop] using this
    have h2:(xs.map (·.1))[i]? = some (DataW.lit (.string z.data.toList):DataW H):=by simp[hb]
    rw[hxs] at h2
    simp only[List.getElem?_map,Option.map_eq_some_iff,DataW.lit.injEq,Lit.string.injEq] at h2
    obtain⟨z',hz',rfl⟩:=h2
    rw[h1,List.getElem?_map,hz']
    rfl
   ·rw[List.getElem?_eq_none (by omega),List.getElem?_eq_none (by simp;omega)]
  ·cases h
theorem zbno {W:World} {name:String} {g:Nat} {t e:TypeId} {n:Nat} {zs:List (List UInt8)} (h2:laidMet Tryz.prog [(name,.agg (zs.map fun z => .lit (.string z)))] W) (hg:Tryz.prog.globalNamed name=some g) (htg:(Tryz.prog.globals[g]?).map (·.type)=some t)
  (ht:Tryz.prog.underlying t=some (.array n e)) (he:Tryz.prog.underlying e=some .string) (hce:Tryz.prog.cellsOf e=1) (hct:Tryz.prog.cellsOf t=n):(zbej W).get g=some (.cells false (zs.map fun z => .string (bya z))):=by
 obtain⟨ps,⟨g',t',cs,fuel,p,q,hg',ht',hvar,hd,_,_⟩,_⟩:=h2
 obtain rfl:=Option.some.inj (hg.symm.trans hg')
 obtain rfl:=Option.some.inj (htg.symm.trans ht')
 have hcs:=zbmr ht he hce hct hd
 unfold World.var? at hvar
 rw[hg'] at hvar
 simp only[Option.bind_eq_bind,Option.bind_some] at hvar
 split at hvar
 ·rename_i C e f hC
  cases hvar
  have hC':W.heap[g]? = some (.cells cs e f):=hC
  rw[zbgw,hC']
  show some (Blk.cells false (cs.toList.map (absV W.heap.size)))=_
  rw[hcs]
  simp only[List.map_map]
  rfl
 ·cases hvar
def zb40:List (List UInt8):=[[],[98,111,111,108],[105,110,116],[100,105,110,116]]
def zb2z:List (List UInt8):=[[],[118,105,101,119],[114,117,110],[98,117,105,108,100],[102,111,114,99,101]]
theorem tabs {W:World} (h:laidMetH Tryz.prog Rows.confNotesRow.laid W) (hs:W.ShapedOpen Tryz.prog):Tabs (zbej W):=by
 have h1:=laidMetH.filter (fun x=>x.1 == "capstan/conf.types") h
 have h2:laidMet Tryz.prog [("capstan/conf.types", .agg (zb40.map fun z => .lit (.string z)))] W:=h1
 have h3:=laidMetH.filter (fun x=>x.1 == "capstan/conf.levels") h
 have h4:laidMet Tryz.prog [("capstan/conf.levels", .agg (zb2z.map fun z => .lit (.string z)))] W:=h3
 exact⟨⟨false,zbno (g:=gid_conf_types) (t:=131) (e:=9) (n:=4) h2 (by kernel_rfl) (by kernel_rfl) (by kernel_rfl) (by kernel_rfl) (by kernel_rfl) (by kernel_rfl)⟩,
  ⟨false,zbno (g:=gid_conf_levels) (t:=78) (e:=9) (n:=5) h4 (by kernel_rfl) (by kernel_rfl) (by kernel_rfl) (by kernel_rfl) (by kernel_rfl) (by kernel_rfl)⟩,maxL hs⟩
def zb0e:DataW Unit→List V
 | .lit (.int k n)=>[.int k n]
 | .lit (.string l)=>[.string ⟨l.toArray⟩]
 | _=>[]
def zb0f:DataW Unit→List V
 | .agg ds=>ds.flatMap zb0e
 | d=>zb0e d
def zbdm:DataW Unit→List V
 | .agg ds=>ds.flatMap zb0f
 | d=>zb0f d
def lay (cs:List V) (o:Obj):Obj:=match o with
 | .cells _ t frozen => .cells cs.toArray t frozen
 | o=>o
noncomputable def N0 (os:Os):Nat:=(World.settled Tryz.prog os).heap.size
noncomputable def zb0g (os:Os):World:=World.holding Tryz.prog os ⟨#[.cells #[.string ⟨#[105,110,118,97,108,105,100,32,115,121,110,116,97,120]⟩] 332,.cells #[.string ⟨#[118,97,108,117,101,32,111,117,116,32,111,102,32,114,97,110,103,101]⟩] 332],#[],[]⟩
noncomputable def laidWorld (os:Os):World :=
 { zb0g os with heap:=(((((((((zb0g os).heap.modify 8 (lay (zbdm Rows.laid_math_bits_deBruijn32tab))).modify 9 (lay (zbdm Rows.laid_math_bits_deBruijn64tab))).modify 5 (lay (zbdm Rows.laid_internal_strconv_uint64pow10))).modify 3 (lay (zbdm Rows.laid_unicode_utf8_first))).modify 4 (lay (zbdm Rows.laid_unicode_utf8_acceptRanges))).modify Cap.gid_conf_types (lay (zbdm Rows.laid_capstan_conf_types))).modify Cap.gid_conf_levels (lay (zbdm Rows.laid_capstan_conf_levels))).modify 6 (lay [.iface 330 (.pointer (some ⟨N0 os,0,none⟩))])).modify 7 (lay [.iface 330 (.pointer (some ⟨N0 os + 1,0,none⟩))]) }
section
variable {H:Type} {enc:TypeId × Value→H} {P:Program} {W:World}
end
end Go.AM.Cap

/- conf, the document: lines, words, numbers, places -/
set_option maxHeartbeats 16000000
namespace Go.AM.Cap
open Go.AM Go.Proofs
variable {H0 H:Heap}
theorem zbh7 {α:Type} [DecidableEq α] (c:α):∀ l:List α,(∀ b∈l,b≠c)→zcu c l=[l]
 | [],_=>rfl
 | b :: l,h=>by
  rw[zcu,if_neg (h b (by simp)),zbh7 c l (fun x hx=>h x (by simp[hx]))]
  rfl
theorem bv_extract (s:ByteArray) (a b:Nat):bv (s.extract a b)=((bv s).drop a).take (b - a):=by
 unfold bv
 rw[ByteArray.data_extract,Array.toList_extract,List.extract_eq_take_drop,List.map_take,List.map_drop]
theorem zbp3 (s:ByteArray) {a b:Nat} (h1:a≤b) (h2:b≤s.size):zzx (.string s) (some (i64 (a:Int))) (some (i64 (b:Int)))=some (.string (sv (((bv s).drop a).take (b - a)))):=by
 have e:sv (((bv s).drop a).take (b - a))=s.extract a b:=by rw[← bv_extract,zbna]
 rw[e]
 have hb:zc8 s.size s.size (some (i64 (b:Int)))=some b:=by simp[zc8];omega
 have ha:zc8 0 b (some (i64 (a:Int)))=some a:=by simp[zc8];omega
 simp only[zzx,hb,ha]
theorem zb0h (s:ByteArray) {a:Nat} (h1:a≤s.size):zzx (.string s) (some (i64 (a:Int))) none=some (.string (sv ((bv s).drop a))):=by
 have e:sv ((bv s).drop a)=s.extract a s.size:=by
  apply zbji
  rw[bv_extract,z4c,List.take_of_length_le (by rw[List.length_drop,zct];omega)]
 rw[e]
 have hb:zc8 s.size s.size none=some s.size:=rfl
 have ha:zc8 0 s.size (some (i64 (a:Int)))=some a:=by simp[zc8];omega
 simp only[zzx,hb,ha]
theorem zbkr {c:BitVec 8} {l:List (BitVec 8)} {a i:Nat} (ha:a≤i) (hi:i < l.length) (hc:l.getD i 0=c) (hn:∀ k,a≤k→k < i→l.getD k 0≠c):zcu c (l.drop a)=(l.drop a).take (i - a) :: zcu c (l.drop (i + 1)):=by
 have e:l.drop a=(l.drop a).take (i - a) ++ c :: l.drop (i + 1):=by
  have h1:l.drop i=c :: l.drop (i + 1):=by
   rw[List.drop_eq_getElem_cons hi]
   congr 1
   rw[← hc,List.getD_eq_getElem?_getD,List.getElem?_eq_getElem hi];rfl
  have h2:(l.drop a).drop (i - a)=l.drop i:=by rw[List.drop_drop];congr 1;omega
  conv=>lhs;rw[← List.take_append_drop (i - a) (l.drop a)]
  rw[h2,h1]
 conv=>lhs;rw[e]
 refine zbh4 fun b hb=>?_
 obtain⟨k,hk,hkb⟩:=List.mem_iff_getElem.1 hb
 rw[List.length_take,List.length_drop] at hk
 have:=hn (a + k) (by omega) (by omega)
 rw[List.getElem_take,List.getElem_drop] at hkb
 rw[← hkb]
 rw[List.getD_eq_getElem?_getD,List.getElem?_eq_getElem (by omega)] at this
 exact this
theorem zbks {c:BitVec 8} {l:List (BitVec 8)} {a:Nat} (hn:∀ k,a≤k→k < l.length→l.getD k 0≠c):zcu c (l.drop a)=[l.drop a]:=by
 refine zbh7 _ _ fun b hb=>?_
 obtain⟨k,hk,hkb⟩:=List.mem_iff_getElem.1 hb
 rw[List.length_drop] at hk
 have:=hn (a + k) (by omega) (by omega)
 rw[List.getElem_drop] at hkb
 rw[← hkb]
 rw[List.getD_eq_getElem?_getD,List.getElem?_eq_getElem (by omega)] at this
 exact this
theorem zb0i (s:ByteArray) (hs:s.size≤1000000) (Q:V→Heap→Prop)
  (hok:(zbd 10 s).getLastD zeq=zeq→∀ w H',Hp H H' [own w (zbd 10 s).dropLast]→Q (.tuple #[w,.bool true]) H')
  (hbad:(zbd 10 s).getLastD zeq≠zeq→∀ w H',Hp H H' [own w (zbd 10 s)]→Q (.tuple #[w,.bool false]) H'):wp (zs7 [.string s]) Q H:=by
 show wp (z0v (.string s)) Q H
 have hsp:zbd 10 s=(zcu 10 ((bv s).drop 0)).map sv:=by rw[List.drop_zero];rfl
 have hlen:=zct s
 (try simp(maxSteps:=1000000)(disch:=first|omega|(simp only[Z3];omega)|(simp;done)|assumption|decide|(apply not_not_intro;assumption))only[ZB,z0v])
 refine zbt s.size (by omega) (fun j vs H'=>∃ (w:V) (xs:List ByteArray) (a:Nat),vs=[.string s,w,i64 a,i64 j]∧Hp H H' [own w xs]∧a≤j∧xs.length≤j∧zbd 10 s=xs ++ (zcu 10 ((bv s).drop a)).map sv∧∀ k,a≤k→k < j→(bv s).getD k 0≠10#8) ⟨.slice none 0 0,[],0,rfl,(Hp.start H).nilo (α:=ByteArray),Nat.le_refl _,by simp,hsp,by omega⟩ ?_
 rintro j vs H1 hj ⟨w,xs,a,rfl,s1,haj,hxl,hspl,hno⟩
 by_cases hlt:j < s.size
 case neg =>
  have:j=s.size:=by omega
  subst this
  have hl:=zbks (c:=10) (l:=bv s) (a:=a) (fun k h1 h2=>hno k h1 (by omega))
  rw[hl] at hspl
  have hdl:(zbd 10 s).dropLast=xs:=by rw[hspl];simp
  have hgl:(zbd 10 s).getLastD zeq=sv ((bv s).drop a):=by rw[hspl];simp
  by_cases hz:a < s.size
  ·have e1:decide ((a:Int) < (s.size:Int))=true:=decide_eq_true (by omega)
   have hsub:=zb0h s haj
   (try simp(maxSteps:=1000000)(disch:=first|omega|(simp only[Z3];omega)|(simp;done)|assumption|decide|(apply not_not_intro;assumption))only[ZA,zbh,zp,zo,zm,zi,zf,zg,zd,zm0,zx0,e1,hsub])
   refine zf5 (α:=ByteArray) (n:=1) (ys:=[sv ((bv s).drop a)]) s1 (i:=0) rfl rfl (by decide) (by rw[show rep 1 [Value.string ⟨#[]⟩]=[Value.string ⟨#[]⟩] from rfl,zd rfl (by decide),zba];rfl) rfl (by omega) (by omega) fun w' H3 s3=>?_
   simp only[List.set_cons_zero] at s3
   (try simp(maxSteps:=1000000)(disch:=first|omega|(simp only[Z3];omega)|(simp;done)|assumption|decide|(apply not_not_intro;assumption))only[ZB])
   refine hbad (by rw[hgl];intro q;have:=congrArg ByteArray.size q;rw[z9j,List.length_drop,hlen] at this;have h0:zeq.size=0:=rfl;omega) w' H3 ?_
   rw[hspl];exact s3
  ·have:a=s.size:=by omega
   subst this
   have e1:decide ((s.size:Int) < (s.size:Int))=false:=decide_eq_false (by omega)
   (try simp(maxSteps:=1000000)(disch:=first|omega|(simp only[Z3];omega)|(simp;done)|assumption|decide|(apply not_not_intro;assumption))only[ZB,zm0,zx0,z7a,e1])
   refine hok (by rw[hgl,List.drop_of_length_le (by omega)];rfl) w H1 ?_
   rw[hdl];exact s1
 have ix:=zi9 (s:=s) (k := .i64) (i:=j) (by omega) (by omega)
 rw[Int.toNat_natCast] at ix
 have e10:(Value.int .u8 10:V)=B 10#8:=rfl
 by_cases c:(bv s).getD j 0=10#8
 ·have e2:decide ((((bv s).getD j 0).toNat:Int)=((10#8).toNat:Int))=true:=decide_eq_true (by rw[c])
  have hsub:=zbp3 s (a:=a) (b:=j) haj (by omega)
  have hst:=zbkr (c:=10) (l:=bv s) haj (by omega) c hno
  (try simp(maxSteps:=1000000)(disch:=first|omega|(simp only[Z3];omega)|(simp;done)|assumption|decide|(apply not_not_intro;assumption))only[ZA,zbh,zp,zo,zm,zi,zf,zg,zd,zm0,zxz,ix,e10,e2,hsub])
  refine zf5 (α:=ByteArray) (n:=1) (ys:=[sv (((bv s).drop a).take (j - a))]) s1 (i:=0) rfl rfl (by decide) (by rw[show rep 1 [Value.string ⟨#[]⟩]=[Value.string ⟨#[]⟩] from rfl,zd rfl (by decide),zba];rfl) rfl (by omega) (by omega) fun w' H3 s3=>?_
  simp only[List.set_cons_zero] at s3
  (try simp(maxSteps:=1000000)(disch:=first|omega|(simp only[Z3];omega)|(simp;done)|assumption|decide|(apply not_not_intro;assumption))only[ZB,zxy])
  refine⟨hlt,w',xs ++ [sv (((bv s).drop a).take (j - a))],j + 1,rfl,s3,Nat.le_refl _,by simp;omega,?_,by omega⟩
  rw[hspl,hst];simp
 ·have e2:decide ((((bv s).getD j 0).toNat:Int)=((10#8).toNat:Int))=false:=decide_eq_false fun q=>c (BitVec.eq_of_toNat_eq (by omega))
  (try simp(maxSteps:=1000000)(disch:=first|omega|(simp only[Z3];omega)|(simp;done)|assumption|decide|(apply not_not_intro;assumption))only[ZB,zm0,zxz,zxy,ix,e10,e2])
  refine⟨hlt,w,xs,a,rfl,s1,by omega,by omega,hspl,fun k h1 h2=>?_⟩
  by_cases hk:k < j
  ·exact hno k h1 hk
  ·have:k=j:=by omega
   subst this;exact c
theorem zb0j {L:List Thing} (hp:Hp H0 H L) (s:ByteArray) (hs:s.size≤1000000) (Q:V→Heap→Prop)
  (hok:zsx (zbd 32 s) zeq=false→∀ w H',Keeps [] H H'→Hp H0 H' (own w (zbd 32 s) :: L)→Q (.tuple #[w,.bool true]) H')
  (hbad:zsx (zbd 32 s) zeq=true→∀ H',Keeps [] H H'→Hp H0 H' L→Q (.tuple #[.slice none 0 0,.bool false]) H'):wp (zs8 [.string s]) Q H:=by
 show wp (z0w (.string s)) Q H
 have hsp:zbd 32 s=(zcu 32 ((bv s).drop 0)).map sv:=by rw[List.drop_zero];rfl
 have hlen:=zct s
 have has_mem:∀ {l:List ByteArray},zeq∈l→zsx l zeq=true:=fun {l} h=>List.any_eq_true.2 ⟨zeq,h,by simp⟩
 (try simp(maxSteps:=1000000)(disch:=first|omega|(simp only[Z3];omega)|(simp;done)|assumption|decide|(apply not_not_intro;assumption))only[ZB,z0w])
 refine zbt (s.size + 1) (by omega) (fun j vs H'=>∃ (w:V) (xs:List ByteArray) (a:Nat),vs=[.string s,w,i64 a,i64 j]∧Hp H H' [own w xs]∧a≤j∧xs.length≤j∧(∀ x∈xs,x≠zeq)∧((j≤s.size∧zbd 32 s=xs ++ (zcu 32 ((bv s).drop a)).map sv∧∀ k,a≤k→k < j→(bv s).getD k 0≠32#8)∨(j=s.size + 1∧zbd 32 s=xs))) ⟨.slice none 0 0,[],0,rfl,(Hp.start H).nilo (α:=ByteArray),Nat.le_refl _,by simp,by simp,.inl ⟨by omega,hsp,by omega⟩⟩ ?_
 rintro j vs H1 hj ⟨w,xs,a,rfl,s1,haj,hxl,hxn,hcase⟩
 rcases hcase with⟨hjs,hspl,hno⟩ | ⟨rfl,hspl⟩
 case inr =>
  have e1:decide (((s.size + 1:Nat):Int)≤(s.size:Int))=false:=decide_eq_false (by omega)
  (try simp(maxSteps:=1000000)(disch:=first|omega|(simp only[Z3];omega)|(simp;done)|assumption|decide|(apply not_not_intro;assumption))only[ZB,zhx,z7b,e1])
  refine hok ?_ w H1 s1.keeps ?_
  ·cases hh:zsx (zbd 32 s) zeq with
   | false=>rfl
   | true =>
    obtain⟨x,hx,he⟩:=List.any_eq_true.1 hh
    rw[hspl] at hx
    have he2:zeq=x:=by simpa using he
    have he':x=zeq:=he2.symm
    exact absurd he' (hxn x hx)
  ·rw[hspl];exact hp.join s1
 have e1:decide ((j:Int)≤(s.size:Int))=true:=decide_eq_true (by omega)
 have fin:(j=s.size∨(bv s).getD j 0=32#8)→∃ rest:List ByteArray,zbd 32 s=xs ++ sv (((bv s).drop a).take (j - a)) :: rest∧(j=s.size→rest=[])∧(j < s.size→rest=(zcu 32 ((bv s).drop (j + 1))).map sv):=fun hor=>by
  by_cases hjn:j=s.size
  ·have hl:=zbks (c:=32) (l:=bv s) (a:=a) (fun k h1 h2=>hno k h1 (by omega))
   refine⟨[],?_,fun _=>rfl,fun q=>absurd q (by omega)⟩
   rw[hspl,hl,List.take_of_length_le (by rw[List.length_drop,hlen];omega)]
   rfl
  ·have hst:=zbkr (c:=32) (l:=bv s) haj (by omega) (hor.resolve_left hjn) hno
   refine⟨_,?_,fun q=>absurd q hjn,fun _=>rfl⟩
   rw[hspl,hst];rfl
 have done:¬ j=a→∀ rest:List ByteArray,zbd 32 s=xs ++ sv (((bv s).drop a).take (j - a)) :: rest→(j=s.size→rest=[])→(j < s.size→rest=(zcu 32 ((bv s).drop (j + 1))).map sv)→∀ (w':V) (H3:Heap),Hp H H3 [own w' (xs ++ [sv (((bv s).drop a).take (j - a))])] →
   j < s.size + 1∧∃ (w:V) (xs:List ByteArray) (a:Nat),[.string s,w',i64 ((j:Int) + 1),i64 ((j:Int) + 1)]=[.string s,w,i64 (a:Int),i64 ((j + 1:Nat):Int)]∧Hp H H3 [own w xs]∧a≤j + 1∧xs.length≤j + 1∧(∀ x∈xs,x≠zeq)∧((j + 1≤s.size∧zbd 32 s=xs ++ (zcu 32 ((bv s).drop a)).map sv∧∀ k,a≤k→k < j + 1→(bv s).getD k 0≠32#8)∨(j + 1=s.size + 1∧zbd 32 s=xs)):=fun hz rest hrest hr1 hr2 w' H3 s3=>by
  refine⟨by omega,w',xs ++ [sv (((bv s).drop a).take (j - a))],j + 1,rfl,s3,Nat.le_refl _,by simp;omega,fun x hx=>?_,?_⟩
  ·rcases List.mem_append.1 hx with q | q
   ·exact hxn x q
   ·simp only[List.mem_cons,List.not_mem_nil,or_false] at q
    subst q
    intro q
    have:=congrArg ByteArray.size q
    rw[z9j,List.length_take,List.length_drop,hlen] at this
    have h0:zeq.size=0:=rfl
    omega
  ·by_cases hjn:j=s.size
   ·right
    refine⟨by omega,?_⟩
    rw[hrest,hr1 hjn]
   ·left
    refine⟨by omega,?_,by omega⟩
    rw[hrest,hr2 (by omega)];simp
 by_cases hjn:j=s.size
 ·have e3:decide ((j:Int)=(s.size:Int))=true:=decide_eq_true (by omega)
  obtain⟨rest,hrest,hr1,hr2⟩:=fin (.inl hjn)
  by_cases hz:j=a
  ·have e2:decide ((j:Int)=(a:Int))=true:=decide_eq_true (by omega)
   (try simp(maxSteps:=1000000)(disch:=first|omega|(simp only[Z3];omega)|(simp;done)|assumption|decide|(apply not_not_intro;assumption))only[ZB,zhx,zjx,e1,e2,e3])
   refine hbad (has_mem ?_) H1 s1.keeps (hp.keep0 s1.keeps)
   rw[hrest,hz,Nat.sub_self,List.take_zero]
   exact List.mem_append_right _ (List.mem_cons_self)
  ·have e2:decide ((j:Int)=(a:Int))=false:=decide_eq_false (by omega)
   have hsub:=zbp3 s (a:=a) (b:=j) haj (by omega)
   (try simp(maxSteps:=1000000)(disch:=first|omega|(simp only[Z3];omega)|(simp;done)|assumption|decide|(apply not_not_intro;assumption))only[ZA,zbh,zp,zo,zm,zi,zf,zg,zd,zhx,zjx,zx1,e1,e2,hsub,e3])
   refine zf5 (α:=ByteArray) (n:=1) (ys:=[sv (((bv s).drop a).take (j - a))]) s1 (i:=0) rfl rfl (by decide) (by rw[show rep 1 [Value.string ⟨#[]⟩]=[Value.string ⟨#[]⟩] from rfl,zd rfl (by decide),zba];rfl) rfl (by omega) (by omega) fun w' H3 s3=>?_
   simp only[List.set_cons_zero] at s3
   (try simp(maxSteps:=1000000)(disch:=first|omega|(simp only[Z3];omega)|(simp;done)|assumption|decide|(apply not_not_intro;assumption))only[ZB,zrb])
   exact done hz _ hrest hr1 hr2 w' H3 s3
 have e3:decide ((j:Int)=(s.size:Int))=false:=decide_eq_false (by omega)
 have ix:=zi9 (s:=s) (k := .i64) (i:=j) (by omega) (by omega)
 rw[Int.toNat_natCast] at ix
 have e32:(Value.int .u8 32:V)=B 32#8:=rfl
 by_cases c:(bv s).getD j 0=32#8
 ·have e4:decide ((((bv s).getD j 0).toNat:Int)=((32#8).toNat:Int))=true:=decide_eq_true (by rw[c])
  obtain⟨rest,hrest,hr1,hr2⟩:=fin (.inr c)
  by_cases hz:j=a
  ·have e2:decide ((j:Int)=(a:Int))=true:=decide_eq_true (by omega)
   (try simp(maxSteps:=1000000)(disch:=first|omega|(simp only[Z3];omega)|(simp;done)|assumption|decide|(apply not_not_intro;assumption))only[ZB,zhx,zjx,e1,e2,e3,ix,e32,e4])
   refine hbad (has_mem ?_) H1 s1.keeps (hp.keep0 s1.keeps)
   rw[hrest,hz,Nat.sub_self,List.take_zero]
   exact List.mem_append_right _ (List.mem_cons_self)
  ·have e2:decide ((j:Int)=(a:Int))=false:=decide_eq_false (by omega)
   have hsub:=zbp3 s (a:=a) (b:=j) haj (by omega)
   (try simp(maxSteps:=1000000)(disch:=first|omega|(simp only[Z3];omega)|(simp;done)|assumption|decide|(apply not_not_intro;assumption))only[ZA,zbh,zp,zo,zm,zi,zf,zg,zd,zhx,zjx,zx1,e1,e2,hsub,e3,ix,e32,e4])
   refine zf5 (α:=ByteArray) (n:=1) (ys:=[sv (((bv s).drop a).take (j - a))]) s1 (i:=0) rfl rfl (by decide) (by rw[show rep 1 [Value.string ⟨#[]⟩]=[Value.string ⟨#[]⟩] from rfl,zd rfl (by decide),zba];rfl) rfl (by omega) (by omega) fun w' H3 s3=>?_
   simp only[List.set_cons_zero] at s3
   (try simp(maxSteps:=1000000)(disch:=first|omega|(simp only[Z3];omega)|(simp;done)|assumption|decide|(apply not_not_intro;assumption))only[ZB,zrb])
   exact done hz _ hrest hr1 hr2 w' H3 s3
 ·have e4:decide ((((bv s).getD j 0).toNat:Int)=((32#8).toNat:Int))=false:=decide_eq_false fun q=>c (BitVec.eq_of_toNat_eq (by omega))
  (try simp(maxSteps:=1000000)(disch:=first|omega|(simp only[Z3];omega)|(simp;done)|assumption|decide|(apply not_not_intro;assumption))only[ZB,zhx,zjx,zrb,e1,e3,ix,e32,e4])
  refine⟨by omega,w,xs,a,rfl,s1,by omega,by omega,hxn,.inl ⟨by omega,hspl,fun k h1 h2=>?_⟩⟩
  by_cases hk:k < j
  ·exact hno k h1 hk
  ·have:k=j:=by omega
   subst this;exact c
end Go.AM.Cap
